/- The types that a type leads to, as lists; what the closed facts on the program ask of them. -/
import Derived.Test.YtaioinkajndjkaaGreatDoorRows
import Derived.JoinedOf
set_option linter.unusedVariables false
set_option linter.unusedSimpArgs false
namespace Go.Proofs.YtaioinkajndjkaaGreatDoor.incrementSame
open Go
theorem grown_fix {P : Program} {s : List TypeId} (e : P.grow s = s) : ∀ n, P.grown n s = s
  | 0 => rfl
  | n + 1 => by
    show P.grown n (P.grow s) = s
    rw [e]
    exact grown_fix e n
theorem grown_add {P : Program} : ∀ (k m : Nat) (s : List TypeId), P.grown (k + m) s = P.grown m (P.grown k s)
  | 0, m, s => by rw [Nat.zero_add]; rfl
  | k + 1, m, s => by
    rw [Nat.succ_add]
    exact grown_add k m (P.grow s)
theorem book_of {P : Program} {k : Nat} {t : TypeId} {l : List TypeId} (hk : k ≤ P.types.size) (h1 : P.grown k [t] = l) (h2 : P.grow l = l) : P.book t = l := by
  unfold Program.book
  obtain ⟨m, hm⟩ := Nat.le.dest hk
  rw [← hm, grown_add, h1, grown_fix h2]
def tab : List (TypeId × List TypeId) := [(34, [34, 27, 31, 32, 24, 25, 3, 28, 29, 69, 22, 48, 55, 62, 66, 9, 67, 42, 4, 39, 46, 53, 43, 60, 95, 40, 108, 51, 93, 45, 2, 49]), (27, [27, 24, 25, 3, 22, 48, 42, 9, 4, 39, 46, 40, 108, 51, 45, 2, 49, 43]), (31, [31, 28, 29, 55, 62, 3, 9, 53, 43, 60, 4, 93]), (32, [32, 69, 66, 9, 67, 95]), (24, [24, 22, 42, 9, 39, 40, 108, 45, 4, 43]), (25, [25, 48, 9, 4, 3, 39, 46, 108, 51, 2, 49]), (3, [3]), (28, [28, 55, 3, 9, 53, 43, 4]), (29, [29, 62, 9, 43, 3, 60, 93]), (69, [69, 66, 9, 67, 95]), (22, [22, 42, 9, 39, 40, 108, 45, 4, 43]), (48, [48, 9, 4, 3, 39, 46, 108, 51, 2, 49]), (55, [55, 3, 9, 53, 43, 4]), (62, [62, 9, 43, 3, 60, 93]), (66, [66, 9]), (9, [9]), (67, [67, 95, 9]), (42, [42, 9, 39, 40, 108, 45, 4, 43]), (4, [4]), (39, [39, 108, 9]), (46, [46, 51, 3, 2, 9, 49]), (53, [53, 3, 43, 4, 9]), (43, [43, 9]), (60, [60, 93, 3, 9]), (95, [95, 9]), (40, [40, 45, 9, 4, 43]), (108, [108, 9]), (51, [51, 3, 2, 9, 49]), (93, [93, 3, 9]), (45, [45, 9, 4, 43]), (2, [2]), (49, [49, 3]), (692, [692, 9]), (763, [763, 380]), (800, [800, 5]), (801, [801, 5])]
def tabB (P : Program) : Bool := Nat.ble 8 P.types.size && tab.all fun p => P.grown 8 [p.1] == p.2 && P.grow p.2 == p.2
theorem tab_b : tabB Tryz.prog = true := by kernel_rfl
theorem book_tab : ∀ p ∈ tab, Tryz.prog.book p.1 = p.2 := fun p hp => by
  have h := tab_b
  unfold tabB at h
  rw [Bool.and_eq_true] at h
  have h2 := List.all_eq_true.1 h.2 p hp
  rw [Bool.and_eq_true] at h2
  exact book_of (Nat.le_of_ble_eq_true h.1) (eq_of_beq h2.1) (eq_of_beq h2.2)
def lk (v : TypeId) : Option (List TypeId) := (tab.find? fun p => p.1 == v).map (·.2)
theorem lk_some {v : TypeId} {l : List TypeId} (h : lk v = some l) : Tryz.prog.book v = l := by
  unfold lk at h
  rw [Option.map_eq_some_iff] at h
  obtain ⟨p, h1, h2⟩ := h
  have h3 := List.find?_some h1
  have e : p.1 = v := by simpa using h3
  rw [← e, ← h2]
  exact book_tab p (List.mem_of_find?_eq_some h1)
abbrev St : TypeId := 34
abbrev Bo : TypeId := 4
def bkSt : List TypeId := [34, 27, 31, 32, 24, 25, 3, 28, 29, 69, 22, 48, 55, 62, 66, 9, 67, 42, 4, 39, 46, 53, 43, 60, 95, 40, 108, 51, 93, 45, 2, 49]
theorem book_st : Tryz.prog.book St = bkSt := lk_some (by kernel_rfl)
theorem book_bo : Tryz.prog.book Bo = [Bo] := lk_some (by kernel_rfl)
theorem read_st : Tryz.prog.readableRec St = true := by
  unfold Program.readableRec
  rw [book_st]
  kernel_rfl
theorem read_bo : Tryz.prog.readableRec Bo = true := by
  unfold Program.readableRec
  rw [book_bo]
  kernel_rfl
theorem maps_st : Tryz.prog.mapsRec St = false := by
  unfold Program.mapsRec
  rw [book_st]
  kernel_rfl
theorem ifaces_st : Tryz.prog.ifacesRec St = false := by
  unfold Program.ifacesRec
  rw [book_st]
  kernel_rfl
theorem ifaces_bo : Tryz.prog.ifacesRec Bo = false := by
  unfold Program.ifacesRec
  rw [book_bo]
  kernel_rfl
theorem wide_st : Tryz.prog.wideKeysFrom St = false := by
  unfold Program.wideKeysFrom
  rw [book_st]
  kernel_rfl
theorem wide_bo : Tryz.prog.wideKeysFrom Bo = false := by
  unfold Program.wideKeysFrom
  rw [book_bo]
  kernel_rfl
theorem loops_of {t : TypeId} {l : List TypeId} (e : Tryz.prog.book t = l) (h : (l.all fun u => (Tryz.prog.partsOf u).all fun v => match lk v with | some b => !b.contains u | none => false) = true) : Tryz.prog.loopsFrom t = false := by
  unfold Program.loopsFrom
  rw [e, List.any_eq_false]
  intro u hu
  rw [Bool.not_eq_true, List.any_eq_false]
  intro v hv
  have h1 := List.all_eq_true.1 (List.all_eq_true.1 h u hu) v hv
  cases hq : lk v with
  | none => rw [hq] at h1; cases h1
  | some b =>
    rw [hq] at h1
    rw [lk_some hq]
    simpa using h1
theorem loops_st : Tryz.prog.loopsFrom St = false := loops_of book_st (by kernel_rfl)
theorem loops_bo : Tryz.prog.loopsFrom Bo = false := loops_of book_bo (by kernel_rfl)
theorem veiled_of {P : Program} {t : TypeId} {l : List TypeId} (e : P.book t = l) (h : (l.any fun u => match P.underlying u with | some (.func ..) | some (.chan ..) | some .unsafePointer => true | _ => false) = false) : P.veiledRec t = false := by
  unfold Program.veiledRec
  rw [e]
  exact h
theorem veiled_st : Tryz.prog.veiledRec St = false := veiled_of (l := bkSt) (lk_some (by kernel_rfl)) (by kernel_rfl)
theorem veiled_bo : Tryz.prog.veiledRec Bo = false := veiled_of (l := [Bo]) (lk_some (by kernel_rfl)) (by kernel_rfl)
theorem own_of {P : Program} {t : TypeId} (h : P.veiledRec t = false) : P.veiledOwn t = true := by
  unfold Program.veiledOwn
  rw [h]
  rfl
def laidTypes : List TypeId := [692, 692, 763, 800, 801]
theorem laid_types : (Rows.incrementSameRow.laid.filterMap fun x => (Tryz.prog.globalNamed x.1).bind fun g => (Tryz.prog.globals[g]?).map (·.type)) = laidTypes := by kernel_rfl
theorem laid_own : ∀ t ∈ laidTypes, Tryz.prog.veiledOwn t = true := fun t ht => by
  simp only [laidTypes, List.mem_cons, List.not_mem_nil, or_false] at ht
  rcases ht with rfl | rfl | rfl | rfl | rfl
  · exact own_of (veiled_of (l := [692, 9]) (lk_some (by kernel_rfl)) (by kernel_rfl))
  · exact own_of (veiled_of (l := [692, 9]) (lk_some (by kernel_rfl)) (by kernel_rfl))
  · exact own_of (veiled_of (l := [763, 380]) (lk_some (by kernel_rfl)) (by kernel_rfl))
  · exact own_of (veiled_of (l := [800, 5]) (lk_some (by kernel_rfl)) (by kernel_rfl))
  · exact own_of (veiled_of (l := [801, 5]) (lk_some (by kernel_rfl)) (by kernel_rfl))
end Go.Proofs.YtaioinkajndjkaaGreatDoor.incrementSame