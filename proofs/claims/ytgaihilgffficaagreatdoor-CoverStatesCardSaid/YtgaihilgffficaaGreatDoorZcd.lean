/- CoverStates: for every input the law returns true, and its arguments read as before (the card ties the listed package-level variables to the program's text). -/
import Derived.Test.YtgaihilgffficaaGreatDoorCzJ
import Derived.Test.YtgaihilgffficaaGreatDoorCards
import Derived.Test.YtgaihilgffficaaGreatDoorTie
set_option linter.all false
namespace Go.Proofs.YtgaihilgffficaaGreatDoor.coverStates
open Go
theorem xG {P : Program} {s : List TypeId} (e : P.grow s = s) : ∀ n, P.grown n s = s
 | 0 => rfl
 | n + 1 => by
  show P.grown n (P.grow s) = s
  rw [e]
  exact xG e n
theorem xH {P : Program} : ∀ (k m : Nat) (s : List TypeId), P.grown (k + m) s = P.grown m (P.grown k s)
 | 0, m, s => by rw [Nat.zero_add]; rfl
 | k + 1, m, s => by
  rw [Nat.succ_add]
  exact xH k m (P.grow s)
theorem L4 {P : Program} {k : Nat} {t : TypeId} {l : List TypeId} (hk : k ≤ P.types.size) (h1 : P.grown k [t] = l) (h2 : P.grow l = l) : P.book t = l := by
 unfold Program.book
 obtain ⟨m, hm⟩ := Nat.le.dest hk
 rw [← hm, xH, h1, xG h2]
def Sr : List (TypeId × List TypeId) := [(27, [27, 24, 25, 3, 22, 102, 124, 9, 4, 99, 100, 122, 214, 81, 121, 2, 56, 28]), (24, [24, 22, 124, 9, 99, 122, 214, 121, 4, 28]), (25, [25, 102, 9, 4, 3, 99, 100, 214, 81, 2, 56]), (3, [3]), (22, [22, 124, 9, 99, 122, 214, 121, 4, 28]), (102, [102, 9, 4, 3, 99, 100, 214, 81, 2, 56]), (124, [124, 9, 99, 122, 214, 121, 4, 28]), (9, [9]), (4, [4]), (99, [99, 214, 9]), (100, [100, 81, 3, 2, 9, 56]), (122, [122, 121, 9, 4, 28]), (214, [214, 9]), (81, [81, 3, 2, 9, 56]), (121, [121, 9, 4, 28]), (2, [2]), (56, [56, 3]), (28, [28, 9]), (31, [31, 9, 28, 3, 29, 154]), (29, [29, 154, 3, 9]), (154, [154, 3, 9]), (32, [32, 2]), (281, [281, 9]), (353, [353, 294]), (393, [393, 5]), (394, [394, 5])]
def QM (P : Program) : Bool := Nat.ble 8 P.types.size && Sr.all fun p => P.grown 8 [p.1] == p.2 && P.grow p.2 == p.2
theorem QN : QM Tryz.prog = true := by kernel_rfl
theorem Jz : ∀ p ∈ Sr, Tryz.prog.book p.1 = p.2 := fun p hp => by
 have h := QN
 unfold QM at h
 rw [Bool.and_eq_true] at h
 have h2 := List.all_eq_true.1 h.2 p hp
 rw [Bool.and_eq_true] at h2
 exact L4 (Nat.le_of_ble_eq_true h.1) (eq_of_beq h2.1) (eq_of_beq h2.2)
def lk (v : TypeId) : Option (List TypeId) := (Sr.find? fun p => p.1 == v).map (·.2)
theorem iJ {v : TypeId} {l : List TypeId} (h : lk v = some l) : Tryz.prog.book v = l := by
 unfold lk at h
 rw [Option.map_eq_some_iff] at h
 obtain ⟨p, h1, h2⟩ := h
 have h3 := List.find?_some h1
 have e : p.1 = v := by simpa using h3
 rw [← e, ← h2]
 exact Jz p (List.mem_of_find?_eq_some h1)
abbrev Un : TypeId := 27
abbrev Pr : TypeId := 31
abbrev EM : TypeId := 32
abbrev Bo : TypeId := 4
def QO : List TypeId := [27, 24, 25, 3, 22, 102, 124, 9, 4, 99, 100, 122, 214, 81, 121, 2, 56, 28]
theorem mW : Tryz.prog.book Un = QO := iJ (by kernel_rfl)
def QP : List TypeId := [31, 9, 28, 3, 29, 154]
theorem mX : Tryz.prog.book Pr = QP := iJ (by kernel_rfl)
def ML : List TypeId := [32, 2]
theorem kF : Tryz.prog.book EM = ML := iJ (by kernel_rfl)
def QQ : List TypeId := [4]
theorem qB : Tryz.prog.book Bo = QQ := iJ (by kernel_rfl)
theorem EN : Tryz.prog.readableRec Un = true := by
 unfold Program.readableRec
 rw [mW]
 kernel_rfl
theorem L5 : Tryz.prog.mapsRec Un = false := by
 unfold Program.mapsRec
 rw [mW]
 kernel_rfl
theorem GC : Tryz.prog.ifacesRec Un = false := by
 unfold Program.ifacesRec
 rw [mW]
 kernel_rfl
theorem L6 : Tryz.prog.wideKeysFrom Un = false := by
 unfold Program.wideKeysFrom
 rw [mW]
 kernel_rfl
theorem EO : Tryz.prog.readableRec Pr = true := by
 unfold Program.readableRec
 rw [mX]
 kernel_rfl
theorem L7 : Tryz.prog.mapsRec Pr = false := by
 unfold Program.mapsRec
 rw [mX]
 kernel_rfl
theorem GD : Tryz.prog.ifacesRec Pr = false := by
 unfold Program.ifacesRec
 rw [mX]
 kernel_rfl
theorem L8 : Tryz.prog.wideKeysFrom Pr = false := by
 unfold Program.wideKeysFrom
 rw [mX]
 kernel_rfl
theorem BW : Tryz.prog.readableRec EM = true := by
 unfold Program.readableRec
 rw [kF]
 kernel_rfl
theorem JA : Tryz.prog.mapsRec EM = false := by
 unfold Program.mapsRec
 rw [kF]
 kernel_rfl
theorem DL : Tryz.prog.ifacesRec EM = false := by
 unfold Program.ifacesRec
 rw [kF]
 kernel_rfl
theorem JB : Tryz.prog.wideKeysFrom EM = false := by
 unfold Program.wideKeysFrom
 rw [kF]
 kernel_rfl
theorem L9 : Tryz.prog.readableRec Bo = true := by
 unfold Program.readableRec
 rw [qB]
 kernel_rfl
theorem GF : Tryz.prog.ifacesRec Bo = false := by
 unfold Program.ifacesRec
 rw [qB]
 kernel_rfl
theorem Ma : Tryz.prog.wideKeysFrom Bo = false := by
 unfold Program.wideKeysFrom
 rw [qB]
 kernel_rfl
theorem qC {t : TypeId} {l : List TypeId} (e : Tryz.prog.book t = l) (h : (l.all fun u => (Tryz.prog.partsOf u).all fun v => match lk v with | some b => !b.contains u | none => false) = true) : Tryz.prog.loopsFrom t = false := by
 unfold Program.loopsFrom
 rw [e, List.any_eq_false]
 intro u hu
 rw [Bool.not_eq_true, List.any_eq_false]
 intro v hv
 have h1 := List.all_eq_true.1 (List.all_eq_true.1 h u hu) v hv
 cases hq : lk v with
 | none => rw [hq] at h1; cases h1
 | some b =>
  rw [hq] at h1
  rw [iJ hq]
  simpa using h1
theorem JC : Tryz.prog.loopsFrom Un = false := qC mW (by kernel_rfl)
theorem JD : Tryz.prog.loopsFrom Pr = false := qC mX (by kernel_rfl)
theorem GG : Tryz.prog.loopsFrom EM = false := qC kF (by kernel_rfl)
theorem JE : Tryz.prog.loopsFrom Bo = false := qC qB (by kernel_rfl)
theorem fQ {P : Program} {t : TypeId} {l : List TypeId} (e : P.book t = l) (h : (l.any fun u => match P.underlying u with | some (.func ..) | some (.chan ..) | some .unsafePointer => true | _ => false) = false) : P.veiledRec t = false := by
 unfold Program.veiledRec
 rw [e]
 exact h
theorem xI : Tryz.prog.veiledRec Un = false := fQ (l := QO) mW (by kernel_rfl)
theorem xJ : Tryz.prog.veiledRec Pr = false := fQ (l := QP) mX (by kernel_rfl)
theorem vJ : Tryz.prog.veiledRec EM = false := fQ (l := ML) kF (by kernel_rfl)
theorem xK : Tryz.prog.veiledRec Bo = false := fQ (l := QQ) qB (by kernel_rfl)
theorem mF {P : Program} {t : TypeId} (h : P.veiledRec t = false) : P.veiledOwn t = true := by
 unfold Program.veiledOwn
 rw [h]
 rfl
def rH : List TypeId := [393, 394, 353, 281, 281]
theorem DN : (Rows.coverStatesRow.laid.filterMap fun x => (Tryz.prog.globalNamed x.1).bind fun g => (Tryz.prog.globals[g]?).map (·.type)) = rH := by kernel_rfl
theorem JF : ∀ t ∈ rH, Tryz.prog.veiledOwn t = true := fun t ht => by
 simp only [rH, List.mem_cons, List.not_mem_nil, or_false, or_self] at ht
 rcases ht with rfl | rfl | rfl | rfl
 ·exact mF (fQ (l := [393, 5]) (iJ (by kernel_rfl)) (by kernel_rfl))
 ·exact mF (fQ (l := [394, 5]) (iJ (by kernel_rfl)) (by kernel_rfl))
 ·exact mF (fQ (l := [353, 294]) (iJ (by kernel_rfl)) (by kernel_rfl))
 ·exact mF (fQ (l := [281, 9]) (iJ (by kernel_rfl)) (by kernel_rfl))
theorem GH {P : Program} (h : P.funcs.any Func.goes = false) (f : FuncId) : P.goes f = false := by
 have hall : ∀ g : FuncId, (P.funcs[g]?).any Func.goes = false := fun g => by
  cases hq : P.funcs[g]? with
  | none => rfl
  | some fn =>
   cases hb : fn.goes with
   | false => simpa using hb
   | true =>
    have : P.funcs.any Func.goes = true := by
     rw [← Array.any_toList, List.any_eq_true]
     exact ⟨fn, Array.mem_toList_iff.2 (Array.mem_of_getElem? hq), hb⟩
    rw [h] at this; cases this
 have e : (fun g : FuncId => (P.funcs[g]?).any Func.goes) = fun _ => false := funext hall
 unfold Program.goes
 rw [h, Bool.and_false, Bool.or_false, e]
 induction P.closure f with
 | nil => rfl
 | cons x l ih => simp
theorem Mb : Tryz.prog.funcs.any Func.goes = false := by kernel_rfl
theorem O3 : false = Rows.coverStatesRow.goesBy Tryz.prog := by
 show false = (Tryz.prog.goesFrom Rows.coverStatesRow.func || false)
 unfold Program.goesFrom
 cases Tryz.prog.funcNamed Rows.coverStatesRow.func with
 | none => rfl
 | some f => simp [GH Mb f]
theorem Mc : true = Tryz.prog.looks [] := by kernel_rfl
theorem plain (f : FuncId) (fn : Func) (hf : Tryz.pinned.checked.prog.funcNamed Rows.coverStatesRow.func = some f) (hfn : Tryz.pinned.checked.prog.funcs[f]? = some fn) :
    true = Tryz.pinned.checked.prog.looks [] ∧ ∀ (j : Nat) t, fn.params[j]? = some t → Tryz.pinned.checked.prog.wantsStandIn t = false := by
 obtain rfl : f = 3 := Option.some.inj ((show Tryz.prog.funcNamed Rows.coverStatesRow.func = some 3 by kernel_rfl).symm.trans hf) |>.symm
 obtain rfl : fn = Tryz.f3 := (Option.some.inj (Tryz.func3.symm.trans hfn)).symm
 refine ⟨Mc, fun j t ht => ?_⟩
 rw [Tryz.params3] at ht
 have hm := Array.mem_of_getElem? ht
 simp only [List.mem_toArray, List.mem_cons, List.not_mem_nil, or_false, or_self] at hm
 rcases hm with rfl | rfl | rfl
 ·exact (show Tryz.prog.wantsStandIn 27 = false by kernel_rfl)
 ·exact (show Tryz.prog.wantsStandIn 31 = false by kernel_rfl)
 ·exact (show Tryz.prog.wantsStandIn 32 = false by kernel_rfl)
def O5 (P : Program) : Nat → List FuncId → Nat → List FuncId → Option (List FuncId)
 | 0, _, _, _ => none
 | _ + 1, [], _, seen => some seen.reverse
 | n + 1, f :: todo, m, seen => bif Nat.testBit m f then O5 P n todo m seen else O5 P n ((P.funcs[f]?).elim [] P.leadsTo ++ todo) (m ||| 2 ^ f) (f :: seen)
theorem DO {P : Program} : ∀ (n k : Nat) (todo : List FuncId) (m : Nat) (seen r : List FuncId), (∀ g : Nat, Nat.testBit m g = seen.contains g) → O5 P n todo m seen = some r → P.closureVia (n + k) todo seen = r
 | 0, k, todo, m, seen, r, _, e => by cases e
 | n + 1, k, [], m, seen, r, _, e => by
  rw [Nat.succ_add]
  have e' : some seen.reverse = some r := e
  cases e'
  rfl
 | n + 1, k, f :: todo, m, seen, r, hm, e => by
  rw [Nat.succ_add]
  have e' : (bif Nat.testBit m f then O5 P n todo m seen else O5 P n ((P.funcs[f]?).elim [] P.leadsTo ++ todo) (m ||| 2 ^ f) (f :: seen)) = some r := e
  show (if seen.contains f then P.closureVia (n + k) todo seen else P.closureVia (n + k) ((P.funcs[f]?).elim [] P.leadsTo ++ todo) (f :: seen)) = r
  rw [← hm f]
  cases hb : Nat.testBit m f with
  | true =>
   rw [hb] at e'
   exact DO n k todo m seen r hm e'
  | false =>
   rw [hb] at e'
   exact DO n k _ _ (f :: seen) r (fun g => by
    rw [Nat.testBit_or, Nat.testBit_two_pow, hm g, List.contains_cons, Bool.or_comm]
    congr 1
    by_cases q : f = g
    ·subst q; simp
    ·simp [q, Ne.symm q]) e'
def CL : List FuncId := [3, 4, 9, 8, 32, 26, 62, 118, 185, 222, 63, 121, 122, 123, 189, 190, 124, 66, 255, 224, 310, 67, 256, 311, 312, 330, 331, 119, 120, 186, 187, 223, 188, 225, 226, 257, 313, 227, 258, 228, 229, 259, 260, 29, 261, 262, 206, 314, 263, 68, 37, 69, 33, 34, 70, 35, 36, 71, 39, 38, 40, 10, 41, 72, 61, 117, 60, 73, 74, 125, 75, 76, 42, 77, 79, 78, 80, 126, 11, 43, 81, 127, 116, 183, 184, 191, 230, 236, 231, 264, 232, 218, 219, 233, 265, 266, 315, 234, 235, 237, 238, 82, 128, 83, 129, 192, 193, 239, 240, 267, 268, 241, 242, 269, 270, 316, 317, 130, 131, 194, 243, 271, 244, 272, 195, 196, 84, 132, 197, 245, 273, 274, 318, 275, 276, 319, 320, 332, 277, 278, 279, 280, 133, 85, 134, 198, 135, 86, 136, 137, 138, 199, 246, 281, 282, 321, 283, 284, 322, 323, 333, 285, 286, 287, 288, 139, 111, 172, 87, 54, 140, 200, 247, 289, 202, 290, 324, 291, 292, 325, 326, 334, 293, 294, 295, 296, 201, 141, 203, 88, 142, 204, 248, 297, 298, 327, 299, 300, 328, 329, 335, 301, 302, 303, 304, 143, 89, 144, 5, 12, 13, 44, 45, 46, 90, 145, 149, 91, 146, 95, 92, 147, 205, 148, 93, 94, 96, 150, 151, 152, 153, 6, 14, 47, 97, 112, 154, 50, 106, 107, 108, 171, 109, 174, 173, 216, 207, 249, 250, 306, 305, 208, 251, 307, 214, 252, 308, 48, 98, 99, 155, 209, 156, 100, 158, 157, 49, 101, 102, 159, 210, 253, 309, 103, 160, 161, 104, 105, 163, 165, 162, 164, 167, 20, 55, 113, 51, 110, 166, 211, 168, 212, 213, 169, 170, 215, 15, 52, 53, 16, 17, 18, 19, 21, 22, 56, 24, 59, 23, 57, 114, 58, 115, 175, 176, 217, 177, 178, 220, 221, 254, 179, 180, 181, 182, 25, 7, 27, 64, 65, 28, 30, 31]
theorem O6 : O5 Tryz.prog 691 [3] 0 [] = some CL := by kernel_rfl
def MM (P : Program) (n : Nat) : Bool := Nat.ble n (1 + (P.funcs.toList.map fun g => (P.leadsTo g).length + 1).sum)
theorem Md : MM Tryz.prog 691 = true := by kernel_rfl
theorem QS {P : Program} {n : Nat} {f : FuncId} {l : List FuncId} (h1 : O5 P n [f] 0 [] = some l) (h2 : MM P n = true) : P.closure f = l := by
 unfold Program.closure
 obtain ⟨k, hk⟩ := Nat.le.dest (Nat.le_of_ble_eq_true (show Nat.ble n (1 + (P.funcs.toList.map fun g => (P.leadsTo g).length + 1).sum) = true from h2))
 rw [← hk]
 exact DO n k [f] 0 [] l (fun g => by simp) h1
theorem JH : Tryz.prog.closure 3 = CL := QS (P := Tryz.prog) (n := 691) (f := 3) (l := CL) O6 Md
theorem Ss : (Rows.coverStatesRow.inPlace == Tryz.prog.inPlace 3) = true := by
 unfold Program.inPlace
 rw [JH]
 kernel_rfl
theorem un : Tryz.prog.unfollowed 3 = true := by
 unfold Program.unfollowed
 rw [JH]
 kernel_rfl
theorem Su : (Rows.coverStatesRow.unfollowed == Tryz.prog.unfollowed 3) = true := by
 rw [un]
 rfl
theorem Sv : (Rows.coverStatesRow.recurses == Tryz.prog.recurses 3) = true := by
 unfold Program.recurses
 rw [un]
 rfl
theorem Sw : (Rows.coverStatesRow.named == Tryz.prog.varsNamed 3) = true := by
 unfold Program.varsNamed
 rw [JH]
 kernel_rfl
def mY (P : Program) (fn : Func) (s : ChangeSpec) (c : OpenClaim) : Bool := c.wf (OpenSpec.ofChange s) && laidOutB P && mapsRowed P &&
 fn.params.all (P.readableRec ·) && namedTie P c.named s.vars &&
 (c.stops == []) && (P.stops == []) && (c.knobs == []) && (P.stopKnobs == []) &&
 (c.maps == (fn.params.toList ++ s.plain.varTypes P).any (P.mapsRec ·)) && (c.ifaces == (fn.params.toList ++ s.plain.varTypes P).any (P.ifacesRec ·)) && (c.mapsOut == P.mapsAmong fn.resultTypes.toList) &&
 (c.loops == (fn.params.toList ++ s.plain.varTypes P).any (P.loopsFrom ·)) && (c.wideKeys == (fn.params.toList ++ s.plain.varTypes P ++ fn.resultTypes.toList).any (P.wideKeysFrom ·)) &&
 s.vars.all (P.varReadable ·) && fn.resultTypes.all (fun t => P.readableRec t && decide (t < P.types.size)) && (c.ifacesOut == fn.resultTypes.toList.any (P.ifacesRec ·)) && (c.loopsOut == fn.resultTypes.toList.any (P.loopsFrom ·)) && (c.plainKeys == P.plainKeys) && c.shortTexts.isNone && P.stopsHeard && P.mayEnter && (c.lifted == P.liftsFinal) && (P.make == some c.make) && (c.kinds == (if c.domain.isEmpty then [] else fn.params.toList.map fun t => match P.underlying t with | some (.int k) => some k | _ => none)) && (c.pinned == c.pinnedBy) &&
 (c.veiled == (fn.params.toList ++ s.plain.varTypes P ++ fn.resultTypes.toList).any (P.veiledRec ·)) && c.veiledFits P fn.params.toList (fn.params.toList ++ s.plain.varTypes P ++ fn.resultTypes.toList)
theorem GI {P : Program} {f : FuncId} {fn : Func} {s : ChangeSpec} {c : OpenClaim} (h1 : (c.inPlace == P.inPlace f) = true) (h2 : (c.unfollowed == P.unfollowed f) = true) (h3 : (c.recurses == P.recurses f) = true) (h4 : (c.named == P.varsNamed f) = true) (h : mY P fn s c = true) : joinedFacts P f fn s c = true := by
 unfold joinedFacts
 unfold mY at h
 rw [h1, h2, h3, h4]
 simp only [Bool.and_true]
 exact h
theorem O7 {a b : Bool} (h1 : a = true) (h2 : b = true) : (a && b) = true := by rw [h1, h2]; rfl
theorem BX {a b : Bool} (h1 : a = false) (h2 : b = false) : (a == b) = true := by rw [h1, h2]; rfl
theorem DP {f : TypeId → Bool} {l : List TypeId} (h : ∀ t ∈ l, f t = false) : l.any f = false := List.any_eq_false.2 fun t ht => by rw [h t ht]; exact Bool.false_ne_true
theorem QT {f : TypeId → Bool} {a : Array TypeId} (h : ∀ t ∈ a.toList, f t = true) : a.all f = true := by
 rw [← Array.all_toList]
 exact List.all_eq_true.2 h
abbrev Sp : ChangeSpec := (OpenSpec.ofChange Rows.coverStatesSpec).bare
theorem O8 : Tryz.f3.params.toList ++ Sp.plain.varTypes Tryz.prog = [Un, Pr, EM] := by kernel_rfl
theorem JI : Tryz.f3.params.toList ++ Sp.plain.varTypes Tryz.prog ++ Tryz.f3.resultTypes.toList = [Un, Pr, EM, Bo] := by kernel_rfl
theorem QU : Tryz.f3.params.toList = [Un, Pr, EM] := by kernel_rfl
theorem Me : Tryz.f3.resultTypes.toList = [Bo] := by kernel_rfl
theorem two {f : TypeId → Bool} {b : Bool} (h0 : f Un = b) (h1 : f Pr = b) (h2 : f EM = b) : ∀ t ∈ [Un, Pr, EM], f t = b := fun t ht => by
 simp only [List.mem_cons, List.not_mem_nil, or_false, or_self] at ht
 rcases ht with rfl | rfl | rfl
 ·exact h0
 ·exact h1
 ·exact h2
theorem one {f : TypeId → Bool} {b : Bool} (h0 : f Bo = b) : ∀ t ∈ [Bo], f t = b := fun t ht => by
 simp only [List.mem_cons, List.not_mem_nil, or_false, or_self] at ht
 rcases ht with rfl
 ·exact h0
theorem three {f : TypeId → Bool} {b : Bool} (h0 : f Un = b) (h1 : f Pr = b) (h2 : f EM = b) (h3 : f Bo = b) : ∀ t ∈ [Un, Pr, EM, Bo], f t = b := fun t ht => by
 simp only [List.mem_cons, List.not_mem_nil, or_false, or_self] at ht
 rcases ht with rfl | rfl | rfl | rfl
 ·exact h0
 ·exact h1
 ·exact h2
 ·exact h3
theorem O9 : Tryz.f3.params.all (Tryz.prog.readableRec ·) = true := QT (by rw [QU]; exact two EN EO BW)
theorem Pa : (Rows.coverStatesRow.maps == (Tryz.f3.params.toList ++ Sp.plain.varTypes Tryz.prog).any (Tryz.prog.mapsRec ·)) = true := BX rfl (by rw [O8]; exact DP (two L5 L7 JA))
theorem JJ : (Rows.coverStatesRow.ifaces == (Tryz.f3.params.toList ++ Sp.plain.varTypes Tryz.prog).any (Tryz.prog.ifacesRec ·)) = true := BX rfl (by rw [O8]; exact DP (two GC GD DL))
theorem Mg : (Rows.coverStatesRow.loops == (Tryz.f3.params.toList ++ Sp.plain.varTypes Tryz.prog).any (Tryz.prog.loopsFrom ·)) = true := BX rfl (by rw [O8]; exact DP (two JC JD GG))
theorem Pb : (Rows.coverStatesRow.wideKeys == (Tryz.f3.params.toList ++ Sp.plain.varTypes Tryz.prog ++ Tryz.f3.resultTypes.toList).any (Tryz.prog.wideKeysFrom ·)) = true := BX rfl (by rw [JI]; exact DP (three L6 L8 JB Ma))
theorem QV : Tryz.f3.resultTypes.all (fun t => Tryz.prog.readableRec t && decide (t < Tryz.prog.types.size)) = true := QT (by rw [Me]; exact one (O7 L9 (by kernel_rfl)))
theorem QW : (Rows.coverStatesRow.ifacesOut == Tryz.f3.resultTypes.toList.any (Tryz.prog.ifacesRec ·)) = true := BX rfl (by rw [Me]; exact DP (one GF))
theorem QX : (Rows.coverStatesRow.loopsOut == Tryz.f3.resultTypes.toList.any (Tryz.prog.loopsFrom ·)) = true := BX rfl (by rw [Me]; exact DP (one JE))
theorem QY : (Rows.coverStatesRow.veiled == (Tryz.f3.params.toList ++ Sp.plain.varTypes Tryz.prog ++ Tryz.f3.resultTypes.toList).any (Tryz.prog.veiledRec ·)) = true := BX rfl (by rw [JI]; exact DP (three xI xJ vJ xK))
theorem QZ : Rows.coverStatesRow.veiledFits Tryz.prog Tryz.f3.params.toList (Tryz.f3.params.toList ++ Sp.plain.varTypes Tryz.prog ++ Tryz.f3.resultTypes.toList) = true := by
 unfold OpenClaim.veiledFits
 rw [DN, JI]
 refine O7 (by kernel_rfl) (Bool.or_eq_true_iff.2 (Or.inl (List.all_eq_true.2 fun t ht => ?_)))
 rcases List.mem_append.1 ht with q | q
 ·exact three (f := fun t => Tryz.prog.veiledOwn t) (mF xI) (mF xJ) (mF vJ) (mF xK) t q
 ·exact JF t q
theorem Q0 : (Rows.coverStatesRow.mapsOut == Tryz.prog.mapsAmong Tryz.f3.resultTypes.toList) = true := BX rfl (by rw [Me]; exact Qy)
theorem Pc : (Rows.coverStatesRow.plainKeys == Tryz.prog.plainKeys) = true := by
 rw [Od]
 rfl
theorem Pd : mY Tryz.prog Tryz.f3 Sp Rows.coverStatesRow = true := by
 unfold mY
 repeat' (with_reducible refine O7 ?_ ?_)
 all_goals first
  | with_reducible exact O9
  | with_reducible exact Pa
  | with_reducible exact JJ
  | with_reducible exact Mg
  | with_reducible exact Pb
  | with_reducible exact QV
  | with_reducible exact QW
  | with_reducible exact QX
  | with_reducible exact QY
  | with_reducible exact QZ
  | with_reducible exact laidOut
  | with_reducible exact Qx
  | with_reducible exact Ls
  | with_reducible exact Q0
  | with_reducible exact Pc
  | kernel_rfl
end Go.Proofs.YtgaihilgffficaaGreatDoor.coverStates
namespace Go.Proofs.YtgaihilgffficaaGreatDoor
open Go.ChangeShapes Go.WideShapes Go.ChangeAt Go.RowKit Go.Deep
section
variable {H : Type} {enc : TypeId × Value → H} {w : World} {held : Bool}
theorem js {p q : List MemPlace} (h : w.noneFrozen q) (hs : ∀ x ∈ p, x ∈ q) : w.noneFrozen p := fun b off hm => h b off (hs _ hm)
theorem nV {P : Program} (hl : laidOutB P = true) {W W' : World} (hb : Below W.heap.size W W') : ∀ {ts : List TypeId} {vs : List Value} {ds : List (DataW H)} {ps : List MemPlace}, (∀ t ∈ ts, P.readableRec t = true ∧ t < P.types.size) →
    DataW.TrodAll enc P W 0 (fun _ => true) true ts vs ds ps → (∀ x ∈ ps, x.block < W.heap.size) → DataW.TrodAll enc P W' 0 (fun b => decide (b < W.heap.size)) true ts vs ds ps
 | [], vs, ds, ps, _, h, _ => by cases vs <;> cases ds <;> simp_all [DataW.TrodAll]
 | t :: ts, vs, ds, ps, ht, h, hlt => by
  obtain ⟨v, vs', d, ds', p, q, rfl, rfl, rfl, h1, h2⟩ := trodAll_cons h
  refine trodAll_cons_mk (Below.trod hl (ht t (by simp)).1 (ht t (by simp)).2 h1 hb (fun x hx => hlt x (by simp [hx]))) (nV hl hb (fun t' ht' => ht t' (by simp [ht'])) h2 (fun x hx => hlt x (by simp [hx])))
theorem JG {fn : Func} {s : ChangeSpec} {W W' : World} {args : Array Value} {ds : List (DataW H)} {before : List MemPlace}
    (hW : DataW.Whole enc Tryz.prog fn.params.toList s.vars false W args.toList ds [] before) (hv : s.vars = []) (hres : (s.fn H (ds ++ [])).results = [.lit (.bool true)]) (hargs : (s.fn H (ds ++ [])).args = ds) (hvs : (s.fn H (ds ++ [])).vars = [])
    (hrt : fn.resultTypes = #[4]) (hp : ∀ t ∈ fn.params.toList, Tryz.prog.readableRec t = true ∧ t < Tryz.prog.types.size) (hb : Below W.heap.size W W') :
    ∃ v, Ending.returned (.bool true) = .returned v ∧ s.post enc Tryz.prog fn false true false false W args v W' := by
 obtain ⟨p, q, hA, hV, e, hfz, hnd⟩ := hW
 have hW2 : DataW.Whole enc Tryz.prog fn.params.toList s.vars false W args.toList ds [] before := ⟨p, q, hA, hV, e, hfz, hnd⟩
 have hlt : ∀ x ∈ p, x.block < W.heap.size := fun x hx => hW2.lt x (by rw [e]; simp [hx])
 refine ⟨_, rfl, ds, [], before, [], p, [], hW2, ?_, ?_, ?_, hb.frame _, fun h => by cases h⟩
 ·rw [hres, hrt]
  exact trodAll_cons_mk (shut_bool Tryz.underlying4 _) trodAll_mk0
 ·rw [hargs]
  exact nV laidOut hb hp hA hlt
 ·rw [hvs, hv]; rfl
theorem okWide_struct {P : Program} {W : World} {base : Nat} {t : TypeId} {fs : Array Field} {v : Value} (u : P.underlying t = some (.struct fs)) (h : Value.okWide P W .any base t v) : ∃ c, v = .agg c ∧ True := by
 unfold Value.okWide at h
 rw [u] at h
 obtain ⟨c, hc, _⟩ := h
 exact ⟨c, hc, trivial⟩
theorem QR {P : Program} {W : World} {base : Nat} {t0 t1 t2 : TypeId} {fs0 : Array Field} {Gn : Array Field} {e2 : TypeId} {v0 v1 v2 : Value} (u0 : P.underlying t0 = some (.struct fs0)) (u1 : P.underlying t1 = some (.struct Gn)) (u2 : P.underlying t2 = some (.slice e2))
    (hval : ∀ (j : Nat) t v, #[t0, t1, t2][j]? = some t → #[v0, v1, v2][j]? = some v → Value.okWide P W .any base t v) : (∃ c, v0 = .agg c) ∧ (∃ c, v1 = .agg c) ∧ (∃ a l c, v2 = .slice a l c) := by
 obtain ⟨c0, BY, _⟩ := okWide_struct u0 (hval 0 t0 v0 rfl rfl)
 obtain ⟨c1, hc1, _⟩ := okWide_struct u1 (hval 1 t1 v1 rfl rfl)
 obtain ⟨a2, l2, c2, hc2⟩ := okWide_slice u2 (hval 2 t2 v2 rfl rfl)
 exact ⟨⟨c0, BY⟩, ⟨c1, hc1⟩, ⟨a2, l2, c2, hc2⟩⟩
end
def putCells (h : Array Obj) (g : Nat) (cs : Array Value) : Array Obj := h.modify g fun
 | .cells _ t frozen => .cells cs t frozen
 | o => o
def vK (d : DataW Unit) : Array Value := ((C9 d).map KB).toArray
noncomputable def rI (os : Os) : World :=
 { World.holding Tryz.prog os ⟨#[], #[], []⟩ with heap := putCells (putCells (putCells (putCells (putCells ((World.holding Tryz.prog os ⟨#[], #[], []⟩).heap) 4 (vK Rows.laid_math_bits_deBruijn32tab)) 5 (vK Rows.laid_math_bits_deBruijn64tab)) 2 (vK Rows.laid_internal_strconv_uint64pow10)) 0 (vK Rows.laid_dataflow_lex_keywords)) 1 (vK Rows.laid_dataflow_ir_forms) }
end Go.Proofs.YtgaihilgffficaaGreatDoor
namespace Go.Proofs.YtgaihilgffficaaGreatDoor.coverStates
open Go.ChangeShapes Go.WideShapes Go.ChangeAt Go.RowKit
theorem contract (H : Type) (enc : TypeId × Value → H) (W : World) (base : Nat) (args : Array Value) (ds gs : List (DataW H)) (before : List MemPlace)
    (hval : ∀ (j : Nat) t v, Tryz.f3.params[j]? = some t → args[j]? = some v → Value.okWide Tryz.prog W .any base t v)
    (hW : DataW.Whole enc Tryz.prog Tryz.f3.params.toList Rows.coverStatesSpec.vars false W args.toList ds gs before)
    (hsz : (DataW.weightsEach Tryz.prog (Tryz.f3.params.toList ++ (OpenSpec.ofChange Rows.coverStatesSpec).bare.plain.varTypes Tryz.prog) (ds ++ gs)).all (· ≤ reachBytes) = true)
    (hL : laidMetH Tryz.prog Rows.coverStatesRow.laid W) :
    Calls Tryz.prog 3 args W fun e W' => ∃ v, e = .returned v ∧ Rows.coverStatesSpec.post enc Tryz.prog Tryz.f3 false true false false W args v W' := by
 have hE : Ev.Kz W := NC hL
 have hW' := hW
 obtain ⟨p, q, hA0, hV, rfl, hfz, hnd⟩ := hW
 have hA : DataW.TrodAll enc Tryz.prog W 0 (fun _ => true) true Tryz.f3.params.toList args.toList ds p := hA0
 rw [Tryz.params3] at hA hval
 obtain ⟨v0, vs0, d0, ds0, p0, q0, hargs, rfl, rfl, h0, r0⟩ := trodAll_cons hA
 obtain ⟨v1, vs1, d1, ds1, p1, q1, rfl, rfl, rfl, h1, r1⟩ := trodAll_cons r0
 obtain ⟨v2, vs2, d2, ds2, p2, q2, rfl, rfl, rfl, h2, r2⟩ := trodAll_cons r1
 obtain ⟨rfl, rfl, rfl⟩ := trodAll_nil r2
 obtain rfl : args = #[v0, v1, v2] := by cases args; simp_all
 obtain ⟨rfl, rfl⟩ := trodVars_none hV
 obtain ⟨⟨c0, rfl⟩, ⟨c1, rfl⟩, ⟨a2, l2, c2, rfl⟩⟩ := QR (P := Tryz.prog) (W := W) (base := base) (v0 := v0) (v1 := v1) (v2 := v2) Tryz.underlying27 Tryz.underlying31 Tryz.underlying32 (by assumption)
 clear hval
 obtain ⟨f0, hf0⟩ := h0
 obtain ⟨f1, hf1⟩ := h1
 obtain ⟨f2, hf2⟩ := h2
 have hs2 : (DataW.weightsEach Tryz.prog [27, 31, 32] [d0, d1, d2]).all (· ≤ reachBytes) = true := hsz
 have hs3 : ∀ x ∈ DataW.weightsEach Tryz.prog [27, 31, 32] [d0, d1, d2], x ≤ reachBytes := fun x hx => by simpa using List.all_eq_true.1 hs2 x hx
 have hr := Ev.Fw hE hf0 (js hfz fun x hm => by simp [hm]) (fun x hx => hs3 x (Ev.dR (i := 0) rfl rfl hx)) hf1 (js hfz fun x hm => by simp [hm]) (fun x hx => hs3 x (Ev.dR (i := 1) rfl rfl hx)) hf2 (js hfz fun x hm => by simp [hm]) (fun x hx => hs3 x (Ev.dR (i := 2) rfl rfl hx))
 have e0 : (Value.cells (.agg c0)).toList.toArray = c0 := by simp [Value.cells]
 have e1 : (Value.cells (.agg c1)).toList.toArray = c1 := by simp [Value.cells]
 rw [e0, e1] at hr
 refine hr.mono fun e W' ⟨he, hb⟩ => ?_
 subst he
 refine JG (before := _) hW' rfl rfl rfl rfl (by kernel_rfl) (fun t ht => ?_) hb
 rw [Tryz.params3] at ht
 simp only [List.mem_cons, List.not_mem_nil, or_false, or_self] at ht
 rcases ht with rfl | rfl | rfl
 ·exact ⟨EN, of_decide_eq_true (by kernel_rfl)⟩
 ·exact ⟨EO, of_decide_eq_true (by kernel_rfl)⟩
 ·exact ⟨BW, of_decide_eq_true (by kernel_rfl)⟩
theorem JK (os : Os) : laidMet Tryz.prog Rows.coverStatesRow.laid ((rI os).forCall (fun _ _ => 0) ⟨#[], #[.agg #[.slice none 0 0, .slice none 0 0, .int .i64 0], .agg #[.string ⟨#[]⟩, .slice none 0 0, .int .i64 0, .int .i64 0, .slice none 0 0], .slice none 0 0], []⟩).memory :=
 laidMet_of_run' 8 (by kernel_rfl) (by kernel_rfl)
theorem reads (os : Os) {H : Type} (enc : TypeId × Value → H) : ∃ places, DataW.whole enc Tryz.prog ((rI os).forCall (fun _ _ => 0) ⟨#[], #[.agg #[.slice none 0 0, .slice none 0 0, .int .i64 0], .agg #[.string ⟨#[]⟩, .slice none 0 0, .int .i64 0, .int .i64 0, .slice none 0 0], .slice none 0 0], []⟩).memory Tryz.f3.params.toList Rows.coverStatesSpec.vars false #[.agg #[.slice none 0 0, .slice none 0 0, .int .i64 0], .agg #[.string ⟨#[]⟩, .slice none 0 0, .int .i64 0, .int .i64 0, .slice none 0 0], .slice none 0 0].toList 8 = some ([.agg [.agg [.nil], .nil, .lit (.int .i64 0)], .agg [.lit (.string []), .nil, .lit (.int .i64 0), .lit (.int .i64 0), .nil], .nil], [], places) :=
 ⟨[], by kernel_rfl⟩
set_option maxRecDepth 100000 in
theorem lifted (os : Os) (started : os.Started) (H : Type) (enc : TypeId × Value → H) (F : Stop.Interp) :
    ReturnsInHanded {} Tryz.checked os 3 .any ((OpenSpec.ofChange Rows.coverStatesSpec).preRow enc Tryz.prog Tryz.f3 Rows.coverStatesRow.domain false Rows.coverStatesRow.laid) (((OpenSpec.ofChange Rows.coverStatesSpec).at F).post enc Tryz.prog Tryz.f3 false true false false) := by
 obtain ⟨places, hx⟩ := reads os enc
 refine returnsInHanded_of_row (C := Tryz.checked) (s := OpenSpec.ofChange Rows.coverStatesSpec) own started (by kernel_rfl) Tryz.func3
  (witness_row_at (enc := enc) (C := Tryz.checked) false (rI os) #[.agg #[.slice none 0 0, .slice none 0 0, .int .i64 0], .agg #[.string ⟨#[]⟩, .slice none 0 0, .int .i64 0, .int .i64 0, .slice none 0 0], .slice none 0 0] rfl (by kernel_rfl) (by kernel_rfl) (by kernel_rfl)
   (OpenSpec.preRow_of_cond 8 hx (by kernel_rfl) (fun k hk => by cases hk) (by kernel_rfl) (JK os))) ?_
 intro W base args ds gs before hval hW _ _ hsz hL _ _
 exact contract H enc W base args ds gs before hval hW hsz hL
theorem said : Rows.CoverStatesSaid :=
 OpenClaim.holds_of_cond 3 Tryz.f3 rfl rfl rfl rfl rfl rfl rfl ⟨rfl, rfl, rfl, rfl, rfl⟩ rfl rfl rfl rfl rfl (by kernel_rfl) Tryz.func3 (GI Ss Su Sv Sw Pd)
  (of_decide_eq_true (by kernel_rfl)) (by unfold Func.isWrapper; first | (rw [if_pos (by decide +kernel)]; kernel_rfl) | (rw [if_neg (by decide +kernel)]; exact ⟨rfl, rfl⟩))
  (fun os started H enc _ F => by rw [OpenClaim.pre_eq_preRow]; exact lifted os started H enc F)
theorem card : Rows.CoverStatesCardSaid :=
 Claim7.holds_tied_plain_at .later [] _ _ _ _ said (fun _ h => by cases h) (by kernel_rfl) (fun _ h => by cases h) coverStates_row_tie rfl ⟨rfl, rfl⟩ (by kernel_rfl) rfl plain O3
end Go.Proofs.YtgaihilgffficaaGreatDoor.coverStates
