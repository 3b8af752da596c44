/- FindingKeys: for every input the law returns true, and its arguments read as before (the card ties the listed package-level variables to the program's text). -/
import Derived.Test.YtffmeglcakcpdaaDoorLift
import Derived.Test.YtffmeglcakcpdaaDoorWalkT
set_option linter.unusedVariables false
namespace Go.Proofs.YtffmeglcakcpdaaDoor.findingKeys
open Go.ChangeShapes Go.WideShapes Go.ChangeAt Go.RowKit

theorem contract (H : Type) (enc : TypeId × Value → H) (W : World) (base : Nat) (args : Array Value) (ds gs : List (DataW H)) (before : List MemPlace)
    (hval : ∀ (j : Nat) t v, Tryd.f6.params[j]? = some t → args[j]? = some v → Value.okWide Tryd.prog W .any base t v)
    (hW : DataW.Whole enc Tryd.prog Tryd.f6.params.toList Rows.findingKeysSpec.vars false W args.toList ds gs before)
    (hsz0 : (DataW.weightsEach Tryd.prog (Tryd.f6.params.toList ++ Rows.findingKeysSpec.plain.varTypes Tryd.prog) (ds ++ gs)).all (· ≤ reachBytes) = true)
    (hL : laidMetH Tryd.prog Rows.findingKeysRow.laid W) :
    Calls Tryd.prog 6 args W fun e W' => ∃ v, e = .returned v ∧ Rows.findingKeysSpec.post enc Tryd.prog Tryd.f6 false true false false W args v W' := by
  have hE : Env W := env_of hL
  have hW' := hW
  obtain ⟨p, q, hA0, hV, rfl, hfz, hnd⟩ := hW
  have hA : DataW.TrodAll enc Tryd.prog W 0 (fun _ => true) true Tryd.f6.params.toList args.toList ds p := hA0
  rw [Tryd.params6] at hA hval hsz0
  obtain ⟨v0, vs0, d0, ds0, p0, q0, hargs, rfl, rfl, h0, r0⟩ := trodAll_cons hA
  obtain ⟨v1, vs1, d1, ds1, p1, q1, rfl, rfl, rfl, h1, r1⟩ := trodAll_cons r0
  obtain ⟨rfl, rfl, rfl⟩ := trodAll_nil r1
  obtain rfl : args = #[v0, v1] := by cases args; simp_all
  obtain ⟨rfl, rfl⟩ := trodVars_none hV
  have hlt : ∀ x ∈ p0 ++ (p1 ++ []) ++ [], x.block < W.heap.size := fun x hx => hW'.lt x hx
  obtain ⟨c0, rfl, _⟩ := okWide_struct Tryd.underlying26 (hval 0 26 v0 rfl rfl)
  obtain ⟨c1, rfl, _⟩ := okWide_struct Tryd.underlying26 (hval 1 26 v1 rfl rfl)
  obtain ⟨f0, hf0⟩ := h0
  obtain ⟨f1, hf1⟩ := h1
  obtain ⟨x, a, cp, e0, hc0, hd0, hr0, hk0, hi0⟩ := open_finding hf0 (fun z hz => hlt z (by simp at hz ⊢; simp [hz]))
  obtain ⟨y, b, cq, e1, hc1, hd1, hr1, hk1, hi1⟩ := open_finding hf1 (fun z hz => hlt z (by simp at hz ⊢; simp [hz]))
  have hw0 : ∀ n ∈ DataW.weights Tryd.prog 26 d0, n ≤ reachBytes := fun n hn => by
    have := List.all_eq_true.1 hsz0 n (DataW.weights_mem_each (j := 0) (t := 26) (d := d0) rfl rfl n hn)
    simpa using this
  have hw1 : ∀ n ∈ DataW.weights Tryd.prog 26 d1, n ≤ reachBytes := fun n hn => by
    have := List.all_eq_true.1 hsz0 n (DataW.weights_mem_each (j := 1) (t := 26) (d := d1) rfl rfl n hn)
    simpa using this
  simp only at hd0 hd1
  have ok0 := ok_of_weights (by rw [← hd0]; exact hw0) hr0 hk0 hi0
  have ok1 := ok_of_weights (by rw [← hd1]; exact hw1) hr1 hk1 hi1
  have ec0 : c0 = #[.int .i64 x.kind, .string x.pl.cls, .string x.pl.meth, .int .i64 x.pl.ins, .string x.what, .slice a x.path.length cp] := by
    have := congrArg List.toArray hc0; simpa [Value.cells] using this
  have ec1 : c1 = #[.int .i64 y.kind, .string y.pl.cls, .string y.pl.meth, .int .i64 y.pl.ins, .string y.what, .slice b y.path.length cq] := by
    have := congrArg List.toArray hc1; simpa [Value.cells] using this
  subst ec0 ec1
  refine (keys_any x y a b cp cq W hE ok0.1 ok1.1 hr0.path hr1.path).mono fun e W' ⟨he, hb⟩ => ?_
  subst he
  refine law_post (before := _) hW' rfl rfl rfl rfl (by kernel_rfl) (fun t ht => ?_) hb
  rw [Tryd.params6] at ht
  simp only [List.mem_cons, List.not_mem_nil, or_false, or_self] at ht
  subst ht
  exact ⟨by kernel_rfl, of_decide_eq_true (by kernel_rfl)⟩


theorem laid_met (os : Os) : laidMet Tryd.prog Rows.findingKeysRow.laid ((laidWorld os).forCall (fun _ _ => 0) ⟨#[], #[.agg #[.int .i64 0, .string .empty, .string .empty, .int .i64 0, .string .empty, .slice none 0 0], .agg #[.int .i64 0, .string .empty, .string .empty, .int .i64 0, .string .empty, .slice none 0 0]], []⟩).memory :=
  laidMet_of_run' 8 (by kernel_rfl) (by kernel_rfl)
theorem reads (os : Os) {H : Type} (enc : TypeId × Value → H) : ∃ places, DataW.whole enc Tryd.prog ((laidWorld os).forCall (fun _ _ => 0) ⟨#[], #[.agg #[.int .i64 0, .string .empty, .string .empty, .int .i64 0, .string .empty, .slice none 0 0], .agg #[.int .i64 0, .string .empty, .string .empty, .int .i64 0, .string .empty, .slice none 0 0]], []⟩).memory Tryd.f6.params.toList Rows.findingKeysSpec.vars false #[.agg #[.int .i64 0, .string .empty, .string .empty, .int .i64 0, .string .empty, .slice none 0 0], .agg #[.int .i64 0, .string .empty, .string .empty, .int .i64 0, .string .empty, .slice none 0 0]].toList 8 = some ([.agg [.lit (.int .i64 0), .agg [.lit (.string []), .lit (.string []), .lit (.int .i64 0)], .lit (.string []), .nil], .agg [.lit (.int .i64 0), .agg [.lit (.string []), .lit (.string []), .lit (.int .i64 0)], .lit (.string []), .nil]], [], places) :=
  ⟨[], by kernel_rfl⟩

set_option maxRecDepth 100000 in
theorem lifted (os : Os) (started : os.Started) (H : Type) (enc : TypeId × Value → H) (F : Stop.Interp) :
    ReturnsInHanded {} Tryd.checked os 6 .any ((OpenSpec.ofChange Rows.findingKeysSpec).preRow enc Tryd.prog Tryd.f6 Rows.findingKeysRow.domain false Rows.findingKeysRow.laid) (((OpenSpec.ofChange Rows.findingKeysSpec).at F).post enc Tryd.prog Tryd.f6 false true false false) := by
  obtain ⟨places, hx⟩ := reads os enc
  refine returnsInHanded_of_row (C := Tryd.checked) (s := OpenSpec.ofChange Rows.findingKeysSpec) own started (by kernel_rfl) Tryd.func6
    (witness_row_at (enc := enc) (C := Tryd.checked) false (laidWorld os) #[.agg #[.int .i64 0, .string .empty, .string .empty, .int .i64 0, .string .empty, .slice none 0 0], .agg #[.int .i64 0, .string .empty, .string .empty, .int .i64 0, .string .empty, .slice none 0 0]] rfl (by kernel_rfl) (by kernel_rfl) (by kernel_rfl)
      (OpenSpec.preRow_of_cond 8 hx (by kernel_rfl) (fun k hk => by cases hk) (by kernel_rfl) (laid_met os))) ?_
  intro W base args ds gs before hval hW _ _ hsz hL _ _
  exact contract H enc W base args ds gs before hval hW hsz hL

theorem said : Rows.FindingKeysSaid :=
  OpenClaim.holds_of_cond 6 Tryd.f6 rfl rfl rfl rfl rfl rfl rfl ⟨rfl, rfl, rfl, rfl, rfl⟩ rfl rfl rfl rfl rfl (by kernel_rfl) Tryd.func6 (by kernel_rfl)
    (of_decide_eq_true (by kernel_rfl)) (by unfold Func.isWrapper; first | (rw [if_pos (by decide +kernel)]; kernel_rfl) | (rw [if_neg (by decide +kernel)]; exact ⟨rfl, rfl⟩))
    (fun os started H enc _ F => by rw [OpenClaim.pre_eq_preRow]; exact lifted os started H enc F)

/-- no parameter wants a stand-in; the program's own looks are off -/
theorem plain (f : FuncId) (fn : Func) (hf : Tryd.pinned.checked.prog.funcNamed Rows.findingKeysRow.func = some f) (hfn : Tryd.pinned.checked.prog.funcs[f]? = some fn) :
    false = Tryd.pinned.checked.prog.looks [] ∧ ∀ (j : Nat) t, fn.params[j]? = some t → Tryd.pinned.checked.prog.wantsStandIn t = false := by
  obtain rfl : f = 6 := Option.some.inj ((show Tryd.prog.funcNamed Rows.findingKeysRow.func = some 6 by kernel_rfl).symm.trans hf) |>.symm
  obtain rfl : fn = Tryd.f6 := (Option.some.inj (Tryd.func6.symm.trans hfn)).symm
  refine ⟨by kernel_rfl, fun j t ht => ?_⟩
  rw [Tryd.params6] at ht
  have hm := Array.mem_of_getElem? ht
  simp only [List.mem_toArray, List.mem_cons, List.not_mem_nil, or_false, or_self] at hm
  subst hm
  exact (show Tryd.prog.wantsStandIn 26 = false by kernel_rfl)

theorem card : Rows.FindingKeysCardSaid :=
  Claim7.holds_tied_plain_at .later [] _ _ _ _ said (fun _ h => by cases h) (by kernel_rfl) (fun _ h => by cases h) findingKeys_row_tie rfl ⟨rfl, rfl⟩ (by kernel_rfl) rfl plain (by kernel_rfl)
end Go.Proofs.YtffmeglcakcpdaaDoor.findingKeys
