/- ConstpropFact: for every input the law returns true, and its arguments read as before (the card ties the listed package-level variables to the program's text). -/
import Derived.Test.YtndmnbigfpaenaaGreatDoorCE
import Derived.Test.YtndmnbigfpaenaaGreatDoorCC
set_option linter.unusedVariables false
set_option linter.unusedSimpArgs false
namespace Go.Proofs.YtndmnbigfpaenaaGreatDoor.constpropFact
open Go.ChangeShapes Go.WideShapes Go.ChangeAt Go.RowKit

theorem contract (H : Type) (enc : TypeId × Value → H) (W : World) (base : Nat) (args : Array Value) (ds gs : List (DataW H)) (before : List MemPlace)
    (hval : ∀ (j : Nat) t v, Tryz.f3.params[j]? = some t → args[j]? = some v → Value.okWide Tryz.prog W .any base t v)
    (hW : DataW.Whole enc Tryz.prog Tryz.f3.params.toList Rows.constpropFactSpec.vars false W args.toList ds gs before)
    (hsz0 : (DataW.weightsEach Tryz.prog (Tryz.f3.params.toList ++ Rows.constpropFactSpec.plain.varTypes Tryz.prog) (ds ++ gs)).all (· ≤ reachBytes) = true)
    (hL : laidMetH Tryz.prog Rows.constpropFactRow.laid W) :
    Calls Tryz.prog 3 args W fun e W' => ∃ v, e = .returned v ∧ Rows.constpropFactSpec.post enc Tryz.prog Tryz.f3 false true false false W args v W' := by
  have hE : Ev.Env W := env_of hL
  have hW' := hW
  obtain ⟨p, q, hA0, hV, rfl, hfz, hnd⟩ := hW
  have hA : DataW.TrodAll enc Tryz.prog W 0 (fun _ => true) true Tryz.f3.params.toList args.toList ds p := hA0
  rw [Tryz.params3] at hA hval hsz0
  obtain ⟨v0, vs0, d0, ds0, p0, q0, hargs, rfl, rfl, h0, r0⟩ := trodAll_cons hA
  obtain ⟨v1, vs1, d1, ds1, p1, q1, rfl, rfl, rfl, h1, r1⟩ := trodAll_cons r0
  obtain ⟨v2, vs2, d2, ds2, p2, q2, rfl, rfl, rfl, h2, r2⟩ := trodAll_cons r1
  obtain ⟨rfl, rfl, rfl⟩ := trodAll_nil r2
  obtain rfl : args = #[v0, v1, v2] := by cases args; simp_all
  obtain ⟨rfl, rfl⟩ := trodVars_none hV
  obtain ⟨⟨c0, rfl⟩, ⟨n1, rfl⟩, ⟨n2, rfl⟩⟩ := args3 (P := Tryz.prog) (W := W) (base := base) (v0 := v0) (v1 := v1) (v2 := v2) Tryz.underlying27 Tryz.underlying3 (by assumption)
  clear hval
  obtain ⟨f0, hf0⟩ := h0
  obtain ⟨f1, hf1⟩ := h1
  obtain ⟨f2, hf2⟩ := h2
  have hw0 : ∀ n ∈ DataW.weights Tryz.prog 27 d0, n ≤ reachBytes := fun n hn => by
    have := List.all_eq_true.1 hsz0 n (DataW.weights_mem_each (j := 0) (t := 27) (d := d0) rfl rfl n hn)
    simpa using this
  obtain ⟨ha, hn, hc, a, cp, fs, m, hc0, hAt, hv, hcp, hcb⟩ := open_unit hf0 hw0
  obtain ⟨i1, e1, _, w1⟩ := DataW.trod_int Tryz.underlying3 hf1
  obtain ⟨i2, e2, _, w2⟩ := DataW.trod_int Tryz.underlying3 hf2
  have ec0 : c0 = #[.slice ha hn hc, .slice a fs.length cp, .int .i64 m] := by
    have := congrArg List.toArray hc0; simpa [Value.cells] using this
  subst ec0
  have b1 : n1 = i1 := by simpa [Value.cells] using e1
  have b2 : n2 = i2 := by simpa [Value.cells] using e2
  subst b1 b2
  refine (law_any fs ha hn hc a cp m _ _ W hE (int_bounds w1) (int_bounds w2) hcp hcb hv hAt).mono fun e W' ⟨he, hb⟩ => ?_
  subst he
  refine law_post (before := _) hW' rfl rfl rfl rfl (by kernel_rfl) (fun t ht => ?_) hb
  rw [Tryz.params3] at ht
  simp only [List.mem_cons, List.not_mem_nil, or_false, or_self] at ht
  rcases ht with rfl | rfl
  · exact ⟨by kernel_rfl, of_decide_eq_true (by kernel_rfl)⟩
  · exact ⟨by kernel_rfl, of_decide_eq_true (by kernel_rfl)⟩


end Go.Proofs.YtndmnbigfpaenaaGreatDoor.constpropFact
