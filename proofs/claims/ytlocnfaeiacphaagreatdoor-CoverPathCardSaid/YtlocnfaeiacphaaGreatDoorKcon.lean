/- CoverPath: for every input the law returns true, and its arguments read as before (the card ties the listed package-level variables to the program's text). -/
import Derived.Test.YtlocnfaeiacphaaGreatDoorCpRc
set_option linter.unusedVariables false
set_option linter.unusedSimpArgs false
namespace Go.Proofs.YtlocnfaeiacphaaGreatDoor
open Go
/-- for a witness: the settled world, the listed variables holding what their initialisers lay -/
def putCells (h : Array Obj) (g : Nat) (cs : Array Value) : Array Obj := h.modify g fun
  | .cells _ t frozen => .cells cs t frozen
  | o => o
def litsOf : DataW Unit → Array Value
  | .agg l => (l.map fun
    | .lit (.int k n) => Value.int k n
    | _ => Value.bool false).toArray
  | _ => #[]
noncomputable def laidWorld (os : Os) : World :=
  { World.holding Tryz.prog os ⟨#[], #[], []⟩ with heap := putCells (putCells (putCells ((World.holding Tryz.prog os ⟨#[], #[], []⟩).heap) 2 (litsOf Rows.laid_math_bits_deBruijn32tab)) 3 (litsOf Rows.laid_math_bits_deBruijn64tab)) 0 (litsOf Rows.laid_internal_strconv_uint64pow10) }
end Go.Proofs.YtlocnfaeiacphaaGreatDoor
namespace Go.Proofs.YtlocnfaeiacphaaGreatDoor.coverPath
open Go.ChangeShapes Go.WideShapes Go.ChangeAt Go.RowKit
theorem contract (H : Type) (enc : TypeId × Value → H) (W : World) (base : Nat) (args : Array Value) (ds gs : List (DataW H)) (before : List MemPlace)
    (hval : ∀ (j : Nat) t v, Tryz.f3.params[j]? = some t → args[j]? = some v → Value.okWide Tryz.prog W .any base t v)
    (hW : DataW.Whole enc Tryz.prog Tryz.f3.params.toList Rows.coverPathSpec.vars false W args.toList ds gs before)
    (hsz0 : (DataW.weightsEach Tryz.prog (Tryz.f3.params.toList ++ Rows.coverPathSpec.plain.varTypes Tryz.prog) (ds ++ gs)).all (· ≤ reachBytes) = true)
    (hL : laidMetH Tryz.prog Rows.coverPathRow.laid W) :
    Calls Tryz.prog 3 args W fun e W' => ∃ v, e = .returned v ∧ Rows.coverPathSpec.post enc Tryz.prog Tryz.f3 false true false false W args v W' := by
  have hW' := hW
  obtain ⟨p, q, hA0, hV, rfl, hfz, hnd⟩ := hW
  have hA : DataW.TrodAll enc Tryz.prog W 0 (fun _ => true) true Tryz.f3.params.toList args.toList ds p := hA0
  rw [Tryz.params3] at hA hval
  obtain ⟨v0, vs0, d0, ds0, p0, q0, hargs, rfl, rfl, h0, r0⟩ := trodAll_cons hA
  obtain ⟨v1, vs1, d1, ds1, p1, q1, rfl, rfl, rfl, h1, r1⟩ := trodAll_cons r0
  obtain ⟨rfl, rfl, rfl⟩ := trodAll_nil r1
  obtain rfl : args = #[v0, v1] := by cases args; simp_all
  obtain ⟨rfl, rfl⟩ := trodVars_none hV
  obtain ⟨⟨c0, rfl⟩, ⟨c1, rfl⟩⟩ := args2 (P := Tryz.prog) (W := W) (base := base) (v0 := v0) (v1 := v1) Tryz.underlying25 Tryz.underlying28 (by assumption)
  clear hval
  obtain ⟨f0, hf0⟩ := h0
  obtain ⟨f1, hf1⟩ := h1
  obtain ⟨w1, w2, mn, ns, es, e0, s1, s2⟩ := open_super hf0 (noneFrozen_sub hfz fun x hm => by simp [hm])
  obtain ⟨en, w3, os, e1, s3, ho⟩ := open_exec hf1 (noneFrozen_sub hfz fun x hm => by simp [hm])
  have ec0 : c0 = #[w1, w2, .int .i64 mn] := by
    have := congrArg List.toArray e0; simpa [Value.cells] using this
  have ec1 : c1 = #[.int .i64 en, w3] := by
    have := congrArg List.toArray e1; simpa [Value.cells] using this
  subst ec0 ec1
  refine (Ev.law_any s1 s2 s3 ho).mono fun e W' ⟨he, hb⟩ => ?_
  subst he
  refine law_post (before := _) hW' rfl rfl rfl rfl (by kernel_rfl) (fun t ht => ?_) hb
  rw [Tryz.params3] at ht
  simp only [List.mem_cons, List.not_mem_nil, or_false, or_self] at ht
  rcases ht with rfl | rfl
  · exact ⟨by kernel_rfl, of_decide_eq_true (by kernel_rfl)⟩
  · exact ⟨by kernel_rfl, of_decide_eq_true (by kernel_rfl)⟩
end Go.Proofs.YtlocnfaeiacphaaGreatDoor.coverPath
