/- Closed facts on the program: types, functions reached. -/
import Derived.Test.YtmdceifbbmnfgaaGreatDoorRows
import Derived.JoinedOf
import Derived.ClosedOfChecked
set_option linter.unusedVariables false
set_option linter.unusedSimpArgs false
namespace Go.Proofs.YtmdceifbbmnfgaaGreatDoor.taintFacts
open Go
theorem grown_fix {P : Program} {s : List TypeId} (e : P.grow s = s) : ∀ n, P.grown n s = s
 | 0 => rfl
 | n + 1 => by
  show P.grown n (P.grow s) = s
  rw [e]
  exact grown_fix e n
theorem grown_add {P : Program} : ∀ (k m : Nat) (s : List TypeId), P.grown (k + m) s = P.grown m (P.grown k s)
 | 0, m, s => by rw [Nat.zero_add]; rfl
 | k + 1, m, s => by
  rw [Nat.succ_add]
  exact grown_add k m (P.grow s)
theorem book_of {P : Program} {k : Nat} {t : TypeId} {l : List TypeId} (hk : k ≤ P.types.size) (h1 : P.grown k [t] = l) (h2 : P.grow l = l) : P.book t = l := by
 unfold Program.book
 obtain ⟨m, hm⟩ := Nat.le.dest hk
 rw [← hm, grown_add, h1, grown_fix h2]
def tab : List (TypeId × List TypeId) := [(27, [27, 24, 25, 3, 22, 70, 64, 9, 4, 61, 68, 62, 116, 72, 67, 2, 42, 65]), (24, [24, 22, 64, 9, 61, 62, 116, 67, 4, 65]), (25, [25, 70, 9, 4, 3, 61, 68, 116, 72, 2, 42]), (3, [3]), (22, [22, 64, 9, 61, 62, 116, 67, 4, 65]), (70, [70, 9, 4, 3, 61, 68, 116, 72, 2, 42]), (64, [64, 9, 61, 62, 116, 67, 4, 65]), (9, [9]), (4, [4]), (61, [61, 116, 9]), (68, [68, 72, 3, 2, 9, 42]), (62, [62, 67, 9, 4, 65]), (116, [116, 9]), (72, [72, 3, 2, 9, 42]), (67, [67, 9, 4, 65]), (2, [2]), (42, [42, 3]), (65, [65, 9]), (31, [31, 3, 29, 9]), (29, [29, 3, 9]), (522, [522, 9])]
def tabB (P : Program) : Bool := Nat.ble 8 P.types.size && tab.all fun p => P.grown 8 [p.1] == p.2 && P.grow p.2 == p.2
theorem tab_b : tabB Tryz.prog = true := by kernel_rfl
theorem book_tab : ∀ p ∈ tab, Tryz.prog.book p.1 = p.2 := fun p hp => by
 have h := tab_b
 unfold tabB at h
 rw [Bool.and_eq_true] at h
 have h2 := List.all_eq_true.1 h.2 p hp
 rw [Bool.and_eq_true] at h2
 exact book_of (Nat.le_of_ble_eq_true h.1) (eq_of_beq h2.1) (eq_of_beq h2.2)
def lk (v : TypeId) : Option (List TypeId) := (tab.find? fun p => p.1 == v).map (·.2)
theorem lk_some {v : TypeId} {l : List TypeId} (h : lk v = some l) : Tryz.prog.book v = l := by
 unfold lk at h
 rw [Option.map_eq_some_iff] at h
 obtain ⟨p, h1, h2⟩ := h
 have h3 := List.find?_some h1
 have e : p.1 = v := by simpa using h3
 rw [← e, ← h2]
 exact book_tab p (List.mem_of_find?_eq_some h1)
abbrev Un : TypeId := 27
abbrev Pl : TypeId := 31
abbrev Bo : TypeId := 4
def bkUn : List TypeId := [27, 24, 25, 3, 22, 70, 64, 9, 4, 61, 68, 62, 116, 72, 67, 2, 42, 65]
theorem book_un : Tryz.prog.book Un = bkUn := lk_some (by kernel_rfl)
def bkPl : List TypeId := [31, 3, 29, 9]
theorem book_pl : Tryz.prog.book Pl = bkPl := lk_some (by kernel_rfl)
def bkBo : List TypeId := [4]
theorem book_bo : Tryz.prog.book Bo = bkBo := lk_some (by kernel_rfl)
theorem read_un : Tryz.prog.readableRec Un = true := by
 unfold Program.readableRec
 rw [book_un]
 kernel_rfl
theorem maps_un : Tryz.prog.mapsRec Un = false := by
 unfold Program.mapsRec
 rw [book_un]
 kernel_rfl
theorem ifaces_un : Tryz.prog.ifacesRec Un = false := by
 unfold Program.ifacesRec
 rw [book_un]
 kernel_rfl
theorem wide_un : Tryz.prog.wideKeysFrom Un = false := by
 unfold Program.wideKeysFrom
 rw [book_un]
 kernel_rfl
theorem read_pl : Tryz.prog.readableRec Pl = true := by
 unfold Program.readableRec
 rw [book_pl]
 kernel_rfl
theorem maps_pl : Tryz.prog.mapsRec Pl = false := by
 unfold Program.mapsRec
 rw [book_pl]
 kernel_rfl
theorem ifaces_pl : Tryz.prog.ifacesRec Pl = false := by
 unfold Program.ifacesRec
 rw [book_pl]
 kernel_rfl
theorem wide_pl : Tryz.prog.wideKeysFrom Pl = false := by
 unfold Program.wideKeysFrom
 rw [book_pl]
 kernel_rfl
theorem read_bo : Tryz.prog.readableRec Bo = true := by
 unfold Program.readableRec
 rw [book_bo]
 kernel_rfl
theorem ifaces_bo : Tryz.prog.ifacesRec Bo = false := by
 unfold Program.ifacesRec
 rw [book_bo]
 kernel_rfl
theorem wide_bo : Tryz.prog.wideKeysFrom Bo = false := by
 unfold Program.wideKeysFrom
 rw [book_bo]
 kernel_rfl
theorem loops_of {t : TypeId} {l : List TypeId} (e : Tryz.prog.book t = l) (h : (l.all fun u => (Tryz.prog.partsOf u).all fun v => match lk v with | some b => !b.contains u | none => false) = true) : Tryz.prog.loopsFrom t = false := by
 unfold Program.loopsFrom
 rw [e, List.any_eq_false]
 intro u hu
 rw [Bool.not_eq_true, List.any_eq_false]
 intro v hv
 have h1 := List.all_eq_true.1 (List.all_eq_true.1 h u hu) v hv
 cases hq : lk v with
 | none => rw [hq] at h1; cases h1
 | some b =>
  rw [hq] at h1
  rw [lk_some hq]
  simpa using h1
theorem loops_un : Tryz.prog.loopsFrom Un = false := loops_of book_un (by kernel_rfl)
theorem loops_pl : Tryz.prog.loopsFrom Pl = false := loops_of book_pl (by kernel_rfl)
theorem loops_bo : Tryz.prog.loopsFrom Bo = false := loops_of book_bo (by kernel_rfl)
theorem veiled_of {P : Program} {t : TypeId} {l : List TypeId} (e : P.book t = l) (h : (l.any fun u => match P.underlying u with | some (.func ..) | some (.chan ..) | some .unsafePointer => true | _ => false) = false) : P.veiledRec t = false := by
 unfold Program.veiledRec
 rw [e]
 exact h
theorem veiled_un : Tryz.prog.veiledRec Un = false := veiled_of (l := bkUn) book_un (by kernel_rfl)
theorem veiled_pl : Tryz.prog.veiledRec Pl = false := veiled_of (l := bkPl) book_pl (by kernel_rfl)
theorem veiled_bo : Tryz.prog.veiledRec Bo = false := veiled_of (l := bkBo) book_bo (by kernel_rfl)
theorem own_of {P : Program} {t : TypeId} (h : P.veiledRec t = false) : P.veiledOwn t = true := by
 unfold Program.veiledOwn
 rw [h]
 rfl
def laidTypes : List TypeId := [522, 522]
theorem laid_types : (Rows.taintFactsRow.laid.filterMap fun x => (Tryz.prog.globalNamed x.1).bind fun g => (Tryz.prog.globals[g]?).map (·.type)) = laidTypes := by kernel_rfl
theorem laid_own : ∀ t ∈ laidTypes, Tryz.prog.veiledOwn t = true := fun t ht => by
 simp only [laidTypes, List.mem_cons, List.not_mem_nil, or_false, or_self] at ht
 rcases ht with rfl
 ·exact own_of (veiled_of (l := [522, 9]) (lk_some (by kernel_rfl)) (by kernel_rfl))
end Go.Proofs.YtmdceifbbmnfgaaGreatDoor.taintFacts
namespace Go.Proofs.YtmdceifbbmnfgaaGreatDoor.taintFacts
open Go
def cvB (P : Program) : Nat → List FuncId → Nat → List FuncId → Option (List FuncId)
 | 0, _, _, _ => none
 | _ + 1, [], _, seen => some seen.reverse
 | n + 1, f :: todo, m, seen => bif Nat.testBit m f then cvB P n todo m seen else cvB P n ((P.funcs[f]?).elim [] P.leadsTo ++ todo) (m ||| 2 ^ f) (f :: seen)
theorem cvB_ok {P : Program} : ∀ (n k : Nat) (todo : List FuncId) (m : Nat) (seen r : List FuncId), (∀ g : Nat, Nat.testBit m g = seen.contains g) → cvB P n todo m seen = some r → P.closureVia (n + k) todo seen = r
 | 0, k, todo, m, seen, r, _, e => by cases e
 | n + 1, k, [], m, seen, r, _, e => by
  rw [Nat.succ_add]
  have e' : some seen.reverse = some r := e
  cases e'
  rfl
 | n + 1, k, f :: todo, m, seen, r, hm, e => by
  rw [Nat.succ_add]
  have e' : (bif Nat.testBit m f then cvB P n todo m seen else cvB P n ((P.funcs[f]?).elim [] P.leadsTo ++ todo) (m ||| 2 ^ f) (f :: seen)) = some r := e
  show (if seen.contains f then P.closureVia (n + k) todo seen else P.closureVia (n + k) ((P.funcs[f]?).elim [] P.leadsTo ++ todo) (f :: seen)) = r
  rw [← hm f]
  cases hb : Nat.testBit m f with
  | true =>
   rw [hb] at e'
   exact cvB_ok n k todo m seen r hm e'
  | false =>
   rw [hb] at e'
   exact cvB_ok n k _ _ (f :: seen) r (fun g => by
    rw [Nat.testBit_or, Nat.testBit_two_pow, hm g, List.contains_cons, Bool.or_comm]
    congr 1
    by_cases q : f = g
    ·subst q; simp
    ·simp [q, Ne.symm q]) e'
def CL : List FuncId := [3, 4, 10, 11, 21, 39, 81, 153, 154, 267, 268, 269, 282, 49, 90, 172, 265, 156, 373, 48, 266, 374, 375, 441, 442, 40, 41, 82, 83, 155, 84, 157, 158, 270, 376, 159, 271, 160, 161, 272, 273, 377, 274, 275, 378, 379, 276, 5, 12, 6, 13, 22, 7, 14, 23, 24, 42, 85, 86, 163, 162, 277, 43, 88, 87, 44, 78, 151, 152, 89, 164, 46, 80, 165, 278, 166, 261, 262, 167, 279, 280, 380, 168, 169, 170, 171, 45, 15, 25, 47, 8, 16, 26, 27, 50, 17, 9, 18, 28, 51, 91, 173, 174, 281, 283, 52, 53, 92, 94, 93, 95, 175, 96, 176, 177, 284, 381, 443, 479, 445, 480, 481, 444, 382, 446, 54, 55, 97, 178, 179, 180, 285, 29, 56, 57, 98, 99, 181, 182, 286, 383, 385, 384, 388, 386, 391, 448, 449, 447, 389, 387, 450, 451, 452, 390, 183, 58, 100, 184, 101, 102, 185, 287, 288, 392, 289, 292, 104, 186, 103, 290, 291, 59, 60, 20, 19, 30, 61, 105, 187, 293, 195, 307, 308, 309, 400, 310, 393, 453, 454, 483, 482, 394, 312, 401, 398, 455, 484, 106, 188, 189, 294, 395, 295, 107, 190, 191, 296, 396, 456, 485, 192, 297, 298, 193, 194, 300, 302, 299, 301, 304, 313, 197, 311, 303, 397, 110, 200, 201, 305, 306, 399, 62, 108, 196, 109, 198, 199, 37, 79, 38, 36, 63, 31, 64, 65, 112, 203, 202, 111, 113, 204, 114, 205, 115, 66, 116, 206, 314, 214, 315, 402, 316, 317, 403, 404, 457, 318, 319, 320, 321, 117, 207, 322, 323, 405, 324, 325, 406, 407, 458, 326, 327, 328, 329, 118, 67, 119, 208, 120, 209, 138, 257, 121, 122, 210, 211, 212, 213, 330, 408, 217, 123, 215, 124, 216, 331, 125, 218, 219, 220, 332, 409, 410, 459, 411, 412, 460, 461, 486, 413, 414, 415, 416, 222, 221, 126, 68, 127, 223, 333, 334, 128, 224, 335, 417, 256, 336, 418, 255, 419, 136, 225, 337, 226, 129, 338, 227, 228, 339, 229, 130, 69, 32, 33, 70, 131, 230, 258, 371, 340, 341, 231, 232, 343, 342, 344, 420, 421, 462, 345, 423, 139, 463, 424, 422, 464, 465, 466, 487, 491, 492, 508, 493, 494, 509, 510, 514, 495, 496, 497, 498, 467, 468, 233, 346, 234, 347, 425, 426, 469, 427, 428, 470, 471, 488, 429, 430, 431, 432, 235, 236, 72, 132, 237, 348, 259, 349, 241, 240, 351, 352, 434, 474, 433, 472, 489, 499, 500, 511, 501, 502, 512, 513, 515, 503, 504, 505, 506, 363, 473, 238, 141, 142, 350, 239, 242, 353, 243, 354, 355, 75, 140, 244, 356, 357, 358, 435, 71, 133, 245, 359, 360, 361, 436, 362, 246, 247, 134, 248, 249, 250, 254, 253, 364, 365, 366, 367, 437, 438, 439, 475, 476, 490, 507, 251, 252, 368, 440, 478, 477, 369, 370, 135, 137, 73, 74, 76, 34, 77, 143, 144, 260, 145, 146, 263, 264, 372, 147, 148, 149, 150, 35]
theorem cl_run : cvB Tryz.prog 1223 [3] 0 [] = some CL := by kernel_rfl
def fuelB (P : Program) (n : Nat) : Bool := Nat.ble n (1 + (P.funcs.toList.map fun g => (P.leadsTo g).length + 1).sum)
theorem cl_fuel : fuelB Tryz.prog 1223 = true := by kernel_rfl
theorem cl_of {P : Program} {n : Nat} {f : FuncId} {l : List FuncId} (h1 : cvB P n [f] 0 [] = some l) (h2 : fuelB P n = true) : P.closure f = l := by
 unfold Program.closure
 obtain ⟨k, hk⟩ := Nat.le.dest (Nat.le_of_ble_eq_true (show Nat.ble n (1 + (P.funcs.toList.map fun g => (P.leadsTo g).length + 1).sum) = true from h2))
 rw [← hk]
 exact cvB_ok n k [f] 0 [] l (fun g => by simp) h1
theorem cl_eq : Tryz.prog.closure 3 = CL := cl_of (P := Tryz.prog) (n := 1223) (f := 3) (l := CL) cl_run cl_fuel
theorem j_in : (Rows.taintFactsRow.inPlace == Tryz.prog.inPlace 3) = true := by
 unfold Program.inPlace
 rw [cl_eq]
 kernel_rfl
theorem un : Tryz.prog.unfollowed 3 = true := by
 unfold Program.unfollowed
 rw [cl_eq]
 kernel_rfl
theorem j_un : (Rows.taintFactsRow.unfollowed == Tryz.prog.unfollowed 3) = true := by
 rw [un]
 rfl
theorem j_re : (Rows.taintFactsRow.recurses == Tryz.prog.recurses 3) = true := by
 unfold Program.recurses
 rw [un]
 rfl
theorem j_na : (Rows.taintFactsRow.named == Tryz.prog.varsNamed 3) = true := by
 unfold Program.varsNamed
 rw [cl_eq]
 kernel_rfl
end Go.Proofs.YtmdceifbbmnfgaaGreatDoor.taintFacts
namespace Go.Proofs.YtmdceifbbmnfgaaGreatDoor
open Go
theorem allSpec : ClosedOfChecked.AllSpec Tryz.checked.prog := ClosedOfChecked.allSpec_of Tryz.checked.wellFormed (by kernel_rfl)
theorem laidOut : laidOutB Tryz.prog = true := ClosedOfChecked.laidOutB_of allSpec (by kernel_rfl)
theorem rowed : mapsRowed Tryz.prog = true := ClosedOfChecked.mapsRowed_of allSpec
theorem keys_of {P : Program} {t : TypeId} (hl : t < P.types.size) (h : (match P.underlying t with
  | some (.map k _) => (match P.underlying k with | some (.array _ _) | some (.struct _) => false | _ => true)
  | _ => true) = false) : P.plainKeys = false := by
 unfold Program.plainKeys
 cases q : (List.range P.types.size).all (fun t => match P.underlying t with
  | some (.map k _) => (match P.underlying k with | some (.array _ _) | some (.struct _) => false | _ => true)
  | _ => true) with
 | false => rfl
 | true =>
  have := List.all_eq_true.1 q t (List.mem_range.2 hl)
  rw [h] at this
  cases this
theorem plainK : Tryz.prog.plainKeys = false := keys_of (t := 178) (of_decide_eq_true (by kernel_rfl)) (by kernel_rfl)
theorem f_out : Tryz.prog.mapsAmong [4] = false := by kernel_rfl
theorem f_heard : Tryz.prog.stopsHeard = true := by kernel_rfl
end Go.Proofs.YtmdceifbbmnfgaaGreatDoor
namespace Go.Proofs.YtmdceifbbmnfgaaGreatDoor.taintFacts
open Go
def restFacts (P : Program) (fn : Func) (s : ChangeSpec) (c : OpenClaim) : Bool := c.wf (OpenSpec.ofChange s) && laidOutB P && mapsRowed P &&
 fn.params.all (P.readableRec ·) && namedTie P c.named s.vars &&
 (c.stops == []) && (P.stops == []) && (c.knobs == []) && (P.stopKnobs == []) &&
 (c.maps == (fn.params.toList ++ s.plain.varTypes P).any (P.mapsRec ·)) && (c.ifaces == (fn.params.toList ++ s.plain.varTypes P).any (P.ifacesRec ·)) && (c.mapsOut == P.mapsAmong fn.resultTypes.toList) &&
 (c.loops == (fn.params.toList ++ s.plain.varTypes P).any (P.loopsFrom ·)) && (c.wideKeys == (fn.params.toList ++ s.plain.varTypes P ++ fn.resultTypes.toList).any (P.wideKeysFrom ·)) &&
 s.vars.all (P.varReadable ·) && fn.resultTypes.all (fun t => P.readableRec t && decide (t < P.types.size)) && (c.ifacesOut == fn.resultTypes.toList.any (P.ifacesRec ·)) && (c.loopsOut == fn.resultTypes.toList.any (P.loopsFrom ·)) && (c.plainKeys == P.plainKeys) && c.shortTexts.isNone && P.stopsHeard && P.mayEnter && (c.lifted == P.liftsFinal) && (P.make == some c.make) && (c.kinds == (if c.domain.isEmpty then [] else fn.params.toList.map fun t => match P.underlying t with | some (.int k) => some k | _ => none)) && (c.pinned == c.pinnedBy) &&
 (c.veiled == (fn.params.toList ++ s.plain.varTypes P ++ fn.resultTypes.toList).any (P.veiledRec ·)) && c.veiledFits P fn.params.toList (fn.params.toList ++ s.plain.varTypes P ++ fn.resultTypes.toList)
theorem joined_of {P : Program} {f : FuncId} {fn : Func} {s : ChangeSpec} {c : OpenClaim} (h1 : (c.inPlace == P.inPlace f) = true) (h2 : (c.unfollowed == P.unfollowed f) = true) (h3 : (c.recurses == P.recurses f) = true) (h4 : (c.named == P.varsNamed f) = true) (h : restFacts P fn s c = true) : joinedFacts P f fn s c = true := by
 unfold joinedFacts
 unfold restFacts at h
 rw [h1, h2, h3, h4]
 simp only [Bool.and_true]
 exact h
theorem band {a b : Bool} (h1 : a = true) (h2 : b = true) : (a && b) = true := by rw [h1, h2]; rfl
theorem beqF {a b : Bool} (h1 : a = false) (h2 : b = false) : (a == b) = true := by rw [h1, h2]; rfl
theorem anyA {f : TypeId → Bool} {l : List TypeId} (h : ∀ t ∈ l, f t = false) : l.any f = false := List.any_eq_false.2 fun t ht => by rw [h t ht]; exact Bool.false_ne_true
theorem allA {f : TypeId → Bool} {a : Array TypeId} (h : ∀ t ∈ a.toList, f t = true) : a.all f = true := by
 rw [← Array.all_toList]
 exact List.all_eq_true.2 h
abbrev Sp : ChangeSpec := (OpenSpec.ofChange Rows.taintFactsSpec).bare
theorem pars : Tryz.f3.params.toList ++ Sp.plain.varTypes Tryz.prog = [Un, Pl] := by kernel_rfl
theorem parsR : Tryz.f3.params.toList ++ Sp.plain.varTypes Tryz.prog ++ Tryz.f3.resultTypes.toList = [Un, Pl, Bo] := by kernel_rfl
theorem parsP : Tryz.f3.params.toList = [Un, Pl] := by kernel_rfl
theorem ress : Tryz.f3.resultTypes.toList = [Bo] := by kernel_rfl
theorem two {f : TypeId → Bool} {b : Bool} (h0 : f Un = b) (h1 : f Pl = b) : ∀ t ∈ [Un, Pl], f t = b := fun t ht => by
 simp only [List.mem_cons, List.not_mem_nil, or_false, or_self] at ht
 rcases ht with rfl | rfl
 ·exact h0
 ·exact h1
theorem one {f : TypeId → Bool} {b : Bool} (h0 : f Bo = b) : ∀ t ∈ [Bo], f t = b := fun t ht => by
 simp only [List.mem_cons, List.not_mem_nil, or_false, or_self] at ht
 rcases ht with rfl
 ·exact h0
theorem three {f : TypeId → Bool} {b : Bool} (h0 : f Un = b) (h1 : f Pl = b) (h2 : f Bo = b) : ∀ t ∈ [Un, Pl, Bo], f t = b := fun t ht => by
 simp only [List.mem_cons, List.not_mem_nil, or_false, or_self] at ht
 rcases ht with rfl | rfl | rfl
 ·exact h0
 ·exact h1
 ·exact h2
theorem r_read : Tryz.f3.params.all (Tryz.prog.readableRec ·) = true := allA (by rw [parsP]; exact two read_un read_pl)
theorem r_maps : (Rows.taintFactsRow.maps == (Tryz.f3.params.toList ++ Sp.plain.varTypes Tryz.prog).any (Tryz.prog.mapsRec ·)) = true := beqF rfl (by rw [pars]; exact anyA (two maps_un maps_pl))
theorem r_ifaces : (Rows.taintFactsRow.ifaces == (Tryz.f3.params.toList ++ Sp.plain.varTypes Tryz.prog).any (Tryz.prog.ifacesRec ·)) = true := beqF rfl (by rw [pars]; exact anyA (two ifaces_un ifaces_pl))
theorem r_loops : (Rows.taintFactsRow.loops == (Tryz.f3.params.toList ++ Sp.plain.varTypes Tryz.prog).any (Tryz.prog.loopsFrom ·)) = true := beqF rfl (by rw [pars]; exact anyA (two loops_un loops_pl))
theorem r_wide : (Rows.taintFactsRow.wideKeys == (Tryz.f3.params.toList ++ Sp.plain.varTypes Tryz.prog ++ Tryz.f3.resultTypes.toList).any (Tryz.prog.wideKeysFrom ·)) = true := beqF rfl (by rw [parsR]; exact anyA (three wide_un wide_pl wide_bo))
theorem r_res : Tryz.f3.resultTypes.all (fun t => Tryz.prog.readableRec t && decide (t < Tryz.prog.types.size)) = true := allA (by rw [ress]; exact one (band read_bo (by kernel_rfl)))
theorem r_ifo : (Rows.taintFactsRow.ifacesOut == Tryz.f3.resultTypes.toList.any (Tryz.prog.ifacesRec ·)) = true := beqF rfl (by rw [ress]; exact anyA (one ifaces_bo))
theorem r_loo : (Rows.taintFactsRow.loopsOut == Tryz.f3.resultTypes.toList.any (Tryz.prog.loopsFrom ·)) = true := beqF rfl (by rw [ress]; exact anyA (one loops_bo))
theorem r_vei : (Rows.taintFactsRow.veiled == (Tryz.f3.params.toList ++ Sp.plain.varTypes Tryz.prog ++ Tryz.f3.resultTypes.toList).any (Tryz.prog.veiledRec ·)) = true := beqF rfl (by rw [parsR]; exact anyA (three veiled_un veiled_pl veiled_bo))
theorem r_fit : Rows.taintFactsRow.veiledFits Tryz.prog Tryz.f3.params.toList (Tryz.f3.params.toList ++ Sp.plain.varTypes Tryz.prog ++ Tryz.f3.resultTypes.toList) = true := by
 unfold OpenClaim.veiledFits
 rw [laid_types, parsR]
 refine band (by kernel_rfl) (Bool.or_eq_true_iff.2 (Or.inl (List.all_eq_true.2 fun t ht => ?_)))
 rcases List.mem_append.1 ht with q | q
 ·exact three (f := fun t => Tryz.prog.veiledOwn t) (own_of veiled_un) (own_of veiled_pl) (own_of veiled_bo) t q
 ·exact laid_own t q
theorem r_out : (Rows.taintFactsRow.mapsOut == Tryz.prog.mapsAmong Tryz.f3.resultTypes.toList) = true := beqF rfl (by rw [ress]; exact f_out)
theorem r_keys : (Rows.taintFactsRow.plainKeys == Tryz.prog.plainKeys) = true := by
 rw [plainK]
 rfl
theorem j_rest : restFacts Tryz.prog Tryz.f3 Sp Rows.taintFactsRow = true := by
 unfold restFacts
 repeat' (with_reducible refine band ?_ ?_)
 all_goals first
  | with_reducible exact r_read
  | with_reducible exact r_maps
  | with_reducible exact r_ifaces
  | with_reducible exact r_loops
  | with_reducible exact r_wide
  | with_reducible exact r_res
  | with_reducible exact r_ifo
  | with_reducible exact r_loo
  | with_reducible exact r_vei
  | with_reducible exact r_fit
  | with_reducible exact laidOut
  | with_reducible exact rowed
  | with_reducible exact f_heard
  | with_reducible exact r_out
  | with_reducible exact r_keys
  | kernel_rfl
end Go.Proofs.YtmdceifbbmnfgaaGreatDoor.taintFacts