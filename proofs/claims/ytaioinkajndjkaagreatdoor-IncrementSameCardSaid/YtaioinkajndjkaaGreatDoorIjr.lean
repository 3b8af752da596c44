/- The other closed facts on the program. -/
import Derived.Test.YtaioinkajndjkaaGreatDoorRows
import Derived.Test.YtaioinkajndjkaaGreatDoorInBk
import Derived.Test.YtaioinkajndjkaaGreatDoorInLo
set_option linter.unusedVariables false
set_option linter.unusedSimpArgs false
namespace Go.Proofs.YtaioinkajndjkaaGreatDoor.incrementSame
open Go
def restFacts (P : Program) (fn : Func) (s : ChangeSpec) (c : OpenClaim) : Bool := c.wf (OpenSpec.ofChange s) && laidOutB P && mapsRowed P &&
  fn.params.all (P.readableRec ·) && namedTie P c.named s.vars &&
  (c.stops == []) && (P.stops == []) && (c.knobs == []) && (P.stopKnobs == []) &&
  (c.maps == (fn.params.toList ++ s.plain.varTypes P).any (P.mapsRec ·)) && (c.ifaces == (fn.params.toList ++ s.plain.varTypes P).any (P.ifacesRec ·)) && (c.mapsOut == P.mapsAmong fn.resultTypes.toList) &&
  (c.loops == (fn.params.toList ++ s.plain.varTypes P).any (P.loopsFrom ·)) && (c.wideKeys == (fn.params.toList ++ s.plain.varTypes P ++ fn.resultTypes.toList).any (P.wideKeysFrom ·)) &&
  s.vars.all (P.varReadable ·) && fn.resultTypes.all (fun t => P.readableRec t && decide (t < P.types.size)) && (c.ifacesOut == fn.resultTypes.toList.any (P.ifacesRec ·)) && (c.loopsOut == fn.resultTypes.toList.any (P.loopsFrom ·)) && (c.plainKeys == P.plainKeys) && c.shortTexts.isNone && P.stopsHeard && P.mayEnter && (c.lifted == P.liftsFinal) && (P.make == some c.make) && (c.kinds == (if c.domain.isEmpty then [] else fn.params.toList.map fun t => match P.underlying t with | some (.int k) => some k | _ => none)) && (c.pinned == c.pinnedBy) &&
  (c.veiled == (fn.params.toList ++ s.plain.varTypes P ++ fn.resultTypes.toList).any (P.veiledRec ·)) && c.veiledFits P fn.params.toList (fn.params.toList ++ s.plain.varTypes P ++ fn.resultTypes.toList)
theorem joined_of {P : Program} {f : FuncId} {fn : Func} {s : ChangeSpec} {c : OpenClaim} (h1 : (c.inPlace == P.inPlace f) = true) (h2 : (c.unfollowed == P.unfollowed f) = true) (h3 : (c.recurses == P.recurses f) = true) (h4 : (c.named == P.varsNamed f) = true) (h : restFacts P fn s c = true) : joinedFacts P f fn s c = true := by
  unfold joinedFacts
  unfold restFacts at h
  rw [h1, h2, h3, h4]
  simp only [Bool.and_true]
  exact h
theorem band {a b : Bool} (h1 : a = true) (h2 : b = true) : (a && b) = true := by rw [h1, h2]; rfl
theorem beqF {a b : Bool} (h1 : a = false) (h2 : b = false) : (a == b) = true := by rw [h1, h2]; rfl
theorem anyA {f : TypeId → Bool} {l : List TypeId} (h : ∀ t ∈ l, f t = false) : l.any f = false := List.any_eq_false.2 fun t ht => by rw [h t ht]; exact Bool.false_ne_true
theorem allA {f : TypeId → Bool} {a : Array TypeId} (h : ∀ t ∈ a.toList, f t = true) : a.all f = true := by
  rw [← Array.all_toList]
  exact List.all_eq_true.2 h
abbrev Sp : ChangeSpec := (OpenSpec.ofChange Rows.incrementSameSpec).bare
theorem pars : Tryz.f3.params.toList ++ Sp.plain.varTypes Tryz.prog = [St, St] := by kernel_rfl
theorem parsR : Tryz.f3.params.toList ++ Sp.plain.varTypes Tryz.prog ++ Tryz.f3.resultTypes.toList = [St, St, Bo] := by kernel_rfl
theorem parsP : Tryz.f3.params.toList = [St, St] := by kernel_rfl
theorem ress : Tryz.f3.resultTypes.toList = [Bo] := by kernel_rfl
theorem two {f : TypeId → Bool} {b : Bool} (h : f St = b) : ∀ t ∈ [St, St], f t = b := fun t ht => by
  simp only [List.mem_cons, List.not_mem_nil, or_false, or_self] at ht
  rw [ht]; exact h
theorem one {f : TypeId → Bool} {b : Bool} (h : f Bo = b) : ∀ t ∈ [Bo], f t = b := fun t ht => by
  simp only [List.mem_cons, List.not_mem_nil, or_false] at ht
  rw [ht]; exact h
theorem three {f : TypeId → Bool} {b : Bool} (h : f St = b) (h2 : f Bo = b) : ∀ t ∈ [St, St, Bo], f t = b := fun t ht => by
  simp only [List.mem_cons, List.not_mem_nil, or_false] at ht
  rcases ht with rfl | rfl | rfl
  · exact h
  · exact h
  · exact h2
theorem r_read : Tryz.f3.params.all (Tryz.prog.readableRec ·) = true := allA (by rw [parsP]; exact two read_st)
theorem r_maps : (Rows.incrementSameRow.maps == (Tryz.f3.params.toList ++ Sp.plain.varTypes Tryz.prog).any (Tryz.prog.mapsRec ·)) = true := beqF rfl (by rw [pars]; exact anyA (two maps_st))
theorem r_ifaces : (Rows.incrementSameRow.ifaces == (Tryz.f3.params.toList ++ Sp.plain.varTypes Tryz.prog).any (Tryz.prog.ifacesRec ·)) = true := beqF rfl (by rw [pars]; exact anyA (two ifaces_st))
theorem r_loops : (Rows.incrementSameRow.loops == (Tryz.f3.params.toList ++ Sp.plain.varTypes Tryz.prog).any (Tryz.prog.loopsFrom ·)) = true := beqF rfl (by rw [pars]; exact anyA (two loops_st))
theorem r_wide : (Rows.incrementSameRow.wideKeys == (Tryz.f3.params.toList ++ Sp.plain.varTypes Tryz.prog ++ Tryz.f3.resultTypes.toList).any (Tryz.prog.wideKeysFrom ·)) = true := beqF rfl (by rw [parsR]; exact anyA (three wide_st wide_bo))
theorem r_res : Tryz.f3.resultTypes.all (fun t => Tryz.prog.readableRec t && decide (t < Tryz.prog.types.size)) = true := allA (by rw [ress]; exact one (band read_bo (by kernel_rfl)))
theorem r_ifo : (Rows.incrementSameRow.ifacesOut == Tryz.f3.resultTypes.toList.any (Tryz.prog.ifacesRec ·)) = true := beqF rfl (by rw [ress]; exact anyA (one ifaces_bo))
theorem r_loo : (Rows.incrementSameRow.loopsOut == Tryz.f3.resultTypes.toList.any (Tryz.prog.loopsFrom ·)) = true := beqF rfl (by rw [ress]; exact anyA (one loops_bo))
theorem r_vei : (Rows.incrementSameRow.veiled == (Tryz.f3.params.toList ++ Sp.plain.varTypes Tryz.prog ++ Tryz.f3.resultTypes.toList).any (Tryz.prog.veiledRec ·)) = true := beqF rfl (by rw [parsR]; exact anyA (three veiled_st veiled_bo))
theorem r_fit : Rows.incrementSameRow.veiledFits Tryz.prog Tryz.f3.params.toList (Tryz.f3.params.toList ++ Sp.plain.varTypes Tryz.prog ++ Tryz.f3.resultTypes.toList) = true := by
  unfold OpenClaim.veiledFits
  rw [laid_types, parsR]
  refine band (by kernel_rfl) (Bool.or_eq_true_iff.2 (Or.inl (List.all_eq_true.2 fun t ht => ?_)))
  rcases List.mem_append.1 ht with q | q
  · exact three (f := fun t => Tryz.prog.veiledOwn t) (own_of veiled_st) (own_of veiled_bo) t q
  · exact laid_own t q
theorem r_out : (Rows.incrementSameRow.mapsOut == Tryz.prog.mapsAmong Tryz.f3.resultTypes.toList) = true := beqF rfl (by rw [ress]; exact f_out)
theorem r_keys : (Rows.incrementSameRow.plainKeys == Tryz.prog.plainKeys) = true := by
  rw [plainK]
  rfl
theorem j_rest : restFacts Tryz.prog Tryz.f3 Sp Rows.incrementSameRow = true := by
  unfold restFacts
  repeat' (with_reducible refine band ?_ ?_)
  all_goals first
    | with_reducible exact r_read
    | with_reducible exact r_maps
    | with_reducible exact r_ifaces
    | with_reducible exact r_loops
    | with_reducible exact r_wide
    | with_reducible exact r_res
    | with_reducible exact r_ifo
    | with_reducible exact r_loo
    | with_reducible exact r_vei
    | with_reducible exact r_fit
    | with_reducible exact laidOut
    | with_reducible exact rowed
    | with_reducible exact f_heard
    | with_reducible exact r_out
    | with_reducible exact r_keys
    | kernel_rfl
end Go.Proofs.YtaioinkajndjkaaGreatDoor.incrementSame