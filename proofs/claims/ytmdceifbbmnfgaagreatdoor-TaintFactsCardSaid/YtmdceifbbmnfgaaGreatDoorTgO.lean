/- slices.Sort, slices.Compact and slices.BinarySearch inside an evaluation. -/
import Derived.Test.YtmdceifbbmnfgaaGreatDoorEvNd
import Derived.Test.YtmdceifbbmnfgaaGreatDoorSyE
import Derived.Test.YtmdceifbbmnfgaaGreatDoorEvT
import Derived.Sort.Grow
import Derived.Sort.EncStr
import Derived.Lib.SlicesCompact
import Derived.Deep.Draws
import Derived.Shelf.Spec.SearchS
set_option linter.unusedVariables false
set_option linter.unusedSimpArgs false
namespace Go.Proofs.YtmdceifbbmnfgaaGreatDoor.Ev
open Go
def txts : List AV → Option (List (List Nat))
 | [] => some []
 | .str s :: l => match txts l with
  | some m => some (s :: m)
  | none => none
 | _ :: _ => none
def insS (s : List Nat) : List (List Nat) → List (List Nat)
 | [] => [s]
 | x :: l => bif ltL s x then s :: x :: l else x :: insS s l
def sortS (l : List (List Nat)) : List (List Nat) := l.foldl (fun a s => insS s a) []
def ascS : List (List Nat) → Bool
 | [] => true
 | x :: l => match l with
  | [] => true
  | y :: _ => ltL x y && ascS l
def cntLt (x : List Nat) : List (List Nat) → Nat
 | [] => 0
 | y :: l => bif ltL y x then Nat.succ (cntLt x l) else 0
def isAt (x : List Nat) (l : List (List Nat)) (k : Nat) : Bool := match l.drop k with
 | [] => false
 | y :: _ => eqL y x
def txtsOf (c : C) (h : H) (id n : Nat) : Option (List AV × List (List Nat)) := match getB c h id with
 | some (.cells vs) => bif Nat.ble n (lenN vs) && Nat.blt 0 n && Nat.blt n 1000000 then match txts (vs.take n) with
  | some l => some (vs, l)
  | none => none
  else none
 | _ => none
def sortSM (f : Nat) : Mf := fun g args c h => bif Nat.beq g f then match args with
 | [.nils] => some (.tup [], h)
 | [.sl id 0 n 1 _] => match txtsOf c h id n with
  | some (vs, l) => setB c h id (.cells ((sortS l).map .str ++ vs.drop n)) fun h' => some (.tup [], h')
  | none => none
 | _ => none
 else none
def compSM (f : Nat) : Mf := fun g args c h => bif Nat.beq g f then match args with
 | [.nils] => some (.nils, h)
 | [.sl id 0 n 1 cap] => match txtsOf c h id n with
  | some (_, l) => bif ascS l && Nat.ble c.floor id then some (.sl id 0 n 1 cap, h) else none
  | none => none
 | _ => none
 else none
def findSM (f : Nat) : Mf := fun g args c h => bif Nat.beq g f then match args with
 | [.nils, .str _] => some (.tup [.int .i64 0, .bool false], h)
 | [.sl id 0 n 1 _, .str x] => match txtsOf c h id n with
  | some (_, l) => bif ascS l then some (.tup [.int .i64 (.ofNat (cntLt x l)), .bool (isAt x l (cntLt x l))], h) else none
  | none => none
 | _ => none
 else none
theorem sortSM_no {f g : Nat} (hne : Nat.beq g f = false) (args : List AV) (c : C) (h : H) : sortSM f g args c h = none := by unfold sortSM; rw [hne]; rfl
theorem compSM_no {f g : Nat} (hne : Nat.beq g f = false) (args : List AV) (c : C) (h : H) : compSM f g args c h = none := by unfold compSM; rw [hne]; rfl
theorem findSM_no {f g : Nat} (hne : Nat.beq g f = false) (args : List AV) (c : C) (h : H) : findSM f g args c h = none := by unfold findSM; rw [hne]; rfl
theorem orM_none {a b : Mf} {f : Nat} {args : List AV} {c : C} {h : H} (ha : a f args c h = none) (hb : b f args c h = none) : orM a b f args c h = none := by unfold orM; rw [ha]; exact hb
theorem orM_right {a b : Mf} {f : Nat} {args : List AV} {c : C} {h : H} (ha : a f args c h = none) : orM a b f args c h = b f args c h := by unfold orM; rw [ha]
theorem orM_left {a b : Mf} {f : Nat} {args : List AV} {c : C} {h : H} {r : AV × H} (ha : a f args c h = some r) : orM a b f args c h = some r := by unfold orM; rw [ha]
theorem txts_map : ∀ l : List (List Nat), txts (l.map .str) = some l
 | [] => rfl
 | s :: l => by rw [List.map_cons]; unfold txts; rw [txts_map l]
theorem gv_memo {P : Program} {X : Exts} {M : Mf} {c : C} {h h' : H} {f : Nat} {args : List AV} {v : AV} {K : AV → H → Prop} (e : M f args c h = some (v, h')) (hK : K v h') : Gv P X M c f args h K := by
 refine ⟨v, h', ⟨1, fun n hn => ?_⟩, hK⟩
 cases n with
 | zero => omega
 | succ n =>
  show (match M f args c h with | some r => Res.call r.1 r.2 | none => stepF (ev (cC P) (tblX P X) M n) c args h (tblX P X f)) = _
  rw [e]
end Go.Proofs.YtmdceifbbmnfgaaGreatDoor.Ev
set_option maxHeartbeats 400000
namespace Go.Proofs.YtmdceifbbmnfgaaGreatDoor.Ev
open Go
def ub (s : List Nat) : List UInt8 := s.map Nat.toUInt8
def Byt (l : List (List Nat)) : Prop := ∀ s ∈ l, (ub s).map UInt8.toNat = s
theorem ub_of (b : List UInt8) : ub (b.map UInt8.toNat) = b := by
 unfold ub
 rw [List.map_map]
 conv => rhs; rw [← List.map_id b]
 apply List.map_congr_left
 intro x _
 simp [Nat.toUInt8]
theorem bless_eq : ∀ (x y : List UInt8), Op.bytesLess x y = decide (x < y)
 | [], [] => by simp [Op.bytesLess]
 | _ :: _, [] => by simp [Op.bytesLess]
 | [], _ :: _ => by simp [Op.bytesLess]
 | a :: x, b :: y => by
  rw [Op.bytesLess, bless_eq x y]
  simp only [List.cons_lt_cons_iff]
  by_cases h1 : a < b <;> by_cases h2 : a = b <;> by_cases h3 : x < y <;> simp [h1, h2, h3]
theorem ltL_ub {s t : List Nat} (hs : (ub s).map UInt8.toNat = s) (ht : (ub t).map UInt8.toNat = t) : ltL s t = decide (ub s < ub t) := by
 conv => lhs; rw [← hs, ← ht]
 rw [ltL_bytes, bless_eq]
theorem le_of_nlt {a b : List UInt8} (h : ¬ a < b) : b ≤ a := h
theorem le_of_lt8 {a b : List UInt8} (h : a < b) : a ≤ b := by
 rcases List.le_total a b with q | q
 ·exact q
 ·exact absurd h q
theorem lt_of_lt_le8 {a b c : List UInt8} (h : a < b) (h' : b ≤ c) : a < c := by
 have h1 : a ≤ c := List.le_trans (le_of_lt8 h) h'
 rcases Decidable.em (a < c) with q | q
 ·exact q
 ·have h2 : c ≤ a := le_of_nlt q
  exact absurd h (show ¬ a < b from List.le_trans h' h2)
/-! the order of a sorted row -/
theorem insS_permB (s : List Nat) : ∀ (l : List (List Nat)), (insS s l).Perm (s :: l)
 | [] => List.Perm.refl _
 | x :: l => by
  unfold insS
  cases ltL s x with
  | true => exact List.Perm.refl _
  | false => exact ((insS_permB s l).cons x).trans (List.Perm.swap s x l)
theorem insS_sorted (s : List Nat) (hs : (ub s).map UInt8.toNat = s) : ∀ (l : List (List Nat)), Byt l → (l.map ub).Pairwise (fun a b => a ≤ b) → ((insS s l).map ub).Pairwise (fun a b => a ≤ b)
 | [], _, _ => by simp [insS]
 | x :: l, hb, h => by
  have hx := hb x (by simp)
  rw [List.map_cons, List.pairwise_cons] at h
  unfold insS
  cases hq : ltL s x with
  | true =>
   rw [ltL_ub hs hx, decide_eq_true_eq] at hq
   show ((s :: x :: l).map ub).Pairwise _
   rw [List.map_cons, List.map_cons, List.pairwise_cons, List.pairwise_cons]
   refine ⟨fun z hz => ?_, h⟩
   rcases List.mem_cons.1 hz with rfl | hz
   ·exact le_of_lt8 hq
   ·exact List.le_trans (le_of_lt8 hq) (h.1 z hz)
  | false =>
   rw [ltL_ub hs hx, decide_eq_false_iff_not] at hq
   show ((x :: insS s l).map ub).Pairwise _
   rw [List.map_cons, List.pairwise_cons]
   refine ⟨fun z hz => ?_, insS_sorted s hs l (fun t ht => hb t (by simp [ht])) h.2⟩
   obtain ⟨y, hy, rfl⟩ := List.mem_map.1 hz
   rcases List.mem_cons.1 ((insS_permB s l).mem_iff.1 hy) with rfl | hy
   ·exact le_of_nlt hq
   ·exact h.1 _ (List.mem_map.2 ⟨y, hy, rfl⟩)
theorem sort_fold : ∀ (l acc : List (List Nat)), Byt l → Byt acc → (acc.map ub).Pairwise (fun a b => a ≤ b) → ((l.foldl (fun a s => insS s a) acc).map ub).Pairwise (fun a b => a ≤ b) ∧ (l.foldl (fun a s => insS s a) acc).Perm (acc ++ l)
 | [], acc, _, _, h => ⟨h, by simp⟩
 | s :: l, acc, hl, ha, h => by
  have hs := hl s (by simp)
  have hp := insS_permB s acc
  obtain ⟨h1, h2⟩ := sort_fold l (insS s acc) (fun t ht => hl t (by simp [ht])) (fun t ht => by
   rcases List.mem_cons.1 (hp.mem_iff.1 ht) with rfl | q
   ·exact hs
   ·exact ha t q) (insS_sorted s hs acc ha h)
  refine ⟨h1, h2.trans ((hp.append_right l).trans ?_)⟩
  exact (List.perm_middle (a := s) (l₁ := acc) (l₂ := l)).symm
theorem sortS_permB (l : List (List Nat)) (hb : Byt l) : (sortS l).Perm l := by
 have := (sort_fold l [] hb (fun t ht => by cases ht) (by simp)).2
 rw [List.nil_append] at this
 exact this
theorem sort_merge {l : List (List Nat)} (hb : Byt l) : (l.map ub).mergeSort (fun x y => decide (x ≤ y)) = (sortS l).map ub := by
 have tr : ∀ a b c : List UInt8, (decide (a ≤ b)) = true → (decide (b ≤ c)) = true → (decide (a ≤ c)) = true := fun a b c h1 h2 => by simp only [decide_eq_true_eq] at *; exact List.le_trans h1 h2
 have to : ∀ a b : List UInt8, (decide (a ≤ b) || decide (b ≤ a)) = true := fun a b => by simp only [Bool.or_eq_true, decide_eq_true_eq]; exact List.le_total a b
 refine List.Perm.eq_of_pairwise (le := fun a b => a ≤ b) (fun a b _ _ h1 h2 => List.le_antisymm h1 h2) ?_ (sort_fold l [] hb (fun t ht => by cases ht) (by simp)).1 ((List.mergeSort_perm _ _).trans ((sortS_permB l hb).map ub).symm)
 exact (List.pairwise_mergeSort tr to (l.map ub)).imp fun h => by simpa using h
/-! ascending rows -/
theorem asc_pair : ∀ {l : List (List Nat)}, ascS l = true → Byt l → (l.map ub).Pairwise (fun a b => a < b)
 | [], _, _ => by simp
 | [x], _, _ => by simp
 | x :: y :: l, h, hb => by
  have h0 : (ltL x y && ascS (y :: l)) = true := h
  rw [Bool.and_eq_true] at h0
  have hx := hb x (by simp)
  have hy := hb y (by simp)
  have ih := asc_pair (l := y :: l) h0.2 (fun t ht => hb t (by simp [ht]))
  have hxy : ub x < ub y := by
   have := h0.1
   rw [ltL_ub hx hy, decide_eq_true_eq] at this
   exact this
  rw [List.map_cons, List.pairwise_cons]
  refine ⟨fun z hz => ?_, ih⟩
  rw [List.map_cons] at hz ih
  rcases List.mem_cons.1 hz with rfl | hz
  ·exact hxy
  ·exact lt_of_lt_le8 hxy (le_of_lt8 ((List.pairwise_cons.1 ih).1 z hz))
theorem nlt_self8 (a : List UInt8) : ¬ a < a := (List.le_total a a).elim id id
theorem comp_same {l : List (List Nat)} (h : ascS l = true) (hb : Byt l) : Lib.compact (l.map ub) = l.map ub := by
 refine Lib.compact_all _ fun j hj => ?_
 have hp := asc_pair h hb
 rcases Nat.eq_zero_or_pos j with rfl | hj0
 ·exact Lib.keeps_lt_one _ 0 (by omega)
 ·refine Lib.keeps_pos fun q => ?_
  rw [getElem!_pos _ j (by simpa using hj), getElem!_pos _ (j - 1) (by have : j < (l.map ub).length := hj; simp at this ⊢; omega)] at q
  have h1 := List.pairwise_iff_getElem.1 hp (j - 1) j (by omega) hj (by omega)
  simp only [List.getElem_toArray] at q
  rw [q] at h1
  exact nlt_self8 _ h1
theorem cnt_spec (x : List Nat) (hx : (ub x).map UInt8.toNat = x) : ∀ {l : List (List Nat)}, ascS l = true → Byt l → (∀ t, t < cntLt x l → ltL (l.getD t []) x = true) ∧ (∀ t, cntLt x l ≤ t → t < l.length → ltL (l.getD t []) x = false) ∧ cntLt x l ≤ l.length
 | [], _, _ => ⟨fun t ht => by (simp [cntLt] at ht), fun t _ ht => by (simp at ht), by simp [cntLt]⟩
 | y :: l, h, hb => by
  have hy := hb y (by simp)
  have hp := asc_pair h hb
  have ha : ascS l = true := by
   cases l with
   | nil => rfl
   | cons z l =>
    have h0 : (ltL y z && ascS (z :: l)) = true := h
    rw [Bool.and_eq_true] at h0
    exact h0.2
  have hbl : Byt l := fun t ht => hb t (by simp [ht])
  obtain ⟨i1, i2, i3⟩ := cnt_spec x hx ha hbl
  unfold cntLt
  cases hq : ltL y x with
  | true =>
   simp only [cond_true]
   refine ⟨fun t ht => ?_, fun t ht ht2 => ?_, by simp; omega⟩
   ·cases t with
    | zero => simpa using hq
    | succ t => simpa using i1 t (by omega)
   ·cases t with
    | zero => omega
    | succ t => simpa using i2 t (by omega) (by simpa using ht2)
  | false =>
   simp only [cond_false]
   refine ⟨fun t ht => by omega, fun t _ ht2 => ?_, by simp⟩
   cases t with
   | zero => simpa using hq
   | succ t =>
    have ht3 : t < l.length := by simpa using ht2
    have e1 : (y :: l).getD (t + 1) [] = l[t] := by simp [List.getD, ht3]
    rw [e1]
    have hm : l[t] ∈ l := List.getElem_mem ht3
    rw [List.map_cons] at hp
    have h1 : ub y < ub l[t] := (List.pairwise_cons.1 hp).1 _ (List.mem_map.2 ⟨_, hm, rfl⟩)
    rw [ltL_ub hy hx, decide_eq_false_iff_not] at hq
    rw [ltL_ub (hbl _ hm) hx, decide_eq_false_iff_not]
    exact fun q => hq (lt_of_lt_le8 h1 (le_of_lt8 q))
/-! the texts of a slice -/
theorem txts_some : ∀ {us : List AV} {l : List (List Nat)}, txts us = some l → us = l.map .str
 | [], l, h => by
  simp only [txts, Option.some.injEq] at h
  subst h; rfl
 | u :: us, l, h => by
  cases u with
  | str s =>
   unfold txts at h
   split at h
   ·rename_i m hm
    cases h
    rw [txts_some hm]; rfl
   ·cases h
  | _ => cases h
theorem txtsOf_some {c : C} {h : H} {id n : Nat} {vs : List AV} {l : List (List Nat)} (e : txtsOf c h id n = some (vs, l)) : getB c h id = some (.cells vs) ∧ n ≤ vs.length ∧ 0 < n ∧ n < 1000000 ∧ vs.take n = l.map .str := by
 unfold txtsOf at e
 split at e
 ·rename_i us hg
  cases hb : (Nat.ble n (lenN us) && Nat.blt 0 n && Nat.blt n 1000000) with
  | false => rw [hb] at e; cases e
  | true =>
   rw [hb, cond_true] at e
   rw [Bool.and_eq_true, Bool.and_eq_true, lenN_eq] at hb
   split at e
   ·rename_i m hm
    simp only [Option.some.injEq, Prod.mk.injEq] at e
    obtain ⟨rfl, rfl⟩ := e
    exact ⟨hg, Nat.le_of_ble_eq_true hb.1.1, by simpa [Nat.blt_eq] using hb.1.2, by simpa [Nat.blt_eq] using hb.2, txts_some hm⟩
   ·cases e
 ·cases e
theorem take_len {vs : List AV} {l : List (List Nat)} {n : Nat} (h : vs.take n = l.map .str) (hn : n ≤ vs.length) : l.length = n := by
 have := congrArg List.length h
 simp at this
 omega
theorem cell_txt {β : Bet} {L : Loc} {cur : Array Value} {vs : List AV} {l : List (List Nat)} {n : Nat} (hc : ∀ (i : Nat) (v : AV), vs[i]? = some v → ∃ c, cur[L.base + i]? = some c ∧ VR β v c) (h : vs.take n = l.map .str) {j : Nat} (hj : j < l.length) :
  cur[L.base + j]? = some (encStr (ub l[j])) ∧ (ub l[j]).map UInt8.toNat = l[j] := by
 have e1 : (vs.take n)[j]? = some (.str l[j]) := by rw [h]; simp [hj]
 have hjn : j < n := by
  rcases Nat.lt_or_ge j n with q | q
  ·exact q
  ·rw [List.getElem?_eq_none (by rw [List.length_take]; omega)] at e1; cases e1
 rw [List.getElem?_take_of_lt hjn] at e1
 obtain ⟨c, c1, c2⟩ := hc j _ e1
 simp only [VR] at c2
 obtain ⟨b, rfl, hb⟩ := c2
 have e2 : ub l[j] = b.data.toList := by rw [← hb]; exact ub_of _
 refine ⟨by rw [c1, e2], by rw [e2]; exact hb⟩
theorem byt_of {β : Bet} {L : Loc} {cur : Array Value} {vs : List AV} {l : List (List Nat)} {n : Nat} (hc : ∀ (i : Nat) (v : AV), vs[i]? = some v → ∃ c, cur[L.base + i]? = some c ∧ VR β v c) (h : vs.take n = l.map .str) : Byt l := fun s hs => by
 obtain ⟨j, hj, rfl⟩ := List.getElem_of_mem hs
 exact (cell_txt hc h hj).2
theorem cell_get {w : World} {L : Loc} {cur : Array Value} {t : TypeId} {fz : Nat × Nat} (hw : w.heap[L.blk]? = some (.cells cur t fz)) (k : Nat) : w.cell? ⟨L.blk, k, none⟩ = cur[k]? := by simp [World.cell?, hw]
theorem holds_of {β : Bet} {w : World} {L : Loc} {cur : Array Value} {e : TypeId × (Nat × Nat)} {vs : List AV} {l : List (List Nat)} {n : Nat} (hw : w.heap[L.blk]? = some (.cells cur e.1 e.2)) (hf : Fz cur e.2 L vs.length)
  (hc : ∀ (i : Nat) (v : AV), vs[i]? = some v → ∃ c, cur[L.base + i]? = some c ∧ VR β v c) (h : vs.take n = l.map .str) (hn : n ≤ vs.length) : Go.Sort.Holds encStr w L.blk L.base (l.map ub).toArray := by
 intro j hj
 have hj' : j < l.length := by simpa using hj
 have hl := take_len h hn
 refine ⟨?_, ?_⟩
 ·rw [cell_get hw, (cell_txt hc h hj').1, getElem!_pos _ j hj]
  simp
 ·have h1 := hf.fit
  have h2 := hf.nf (L.base + j) (by omega) (by omega)
  simp only [World.frozen?, hw]
  exact h2
/-! the memory's relation -/
theorem post_writeG {f n id : Nat} {β : Bet} {g g' : View} {w w' : World} {b0 b : AB} {L : Loc} (h : HR f β g w) (h0 : g id = some b0) (hL : β id = some L) (hf : f ≤ id)
  (hw : ∀ B, B < w.heap.size → B ≠ L.blk → w'.heap[B]? = w.heap[B]?) (hs : w.heap.size ≤ w'.heap.size) (hos : w'.os = w.os) (htp : w'.tape = w.tape) (hout : w'.output = w.output)
  (hb : BR β L w' b) (hg : ∀ j d, g' j = some d → (j = id ∧ d = b) ∨ (j ≠ id ∧ g j = some d)) :
  Post f n n β g w β g' w' := by
 obtain ⟨L', hL', hlt, _⟩ := h.at_ id b0 h0
 rw [hL] at hL'; cases hL'
 refine ⟨Nat.le_refl _, Sub.refl _, fun i M h1 h2 => by (rw [h2] at h1; cases h1), ⟨fun j d e => ?_, fun i j d e M N h1 h2 h3 h4 h5 => ?_⟩, hos, htp, hout, hs, fun B hB hh => hw B hB fun e => hh id b0 L hf h0 hL e.symm, fun i M h1 h2 => by (rw [h2] at h1; cases h1), fun j d e => ?_⟩
 ·rcases hg j d e with ⟨rfl, rfl⟩ | ⟨x, e⟩
  ·exact ⟨L, hL, by omega, hb⟩
  ·obtain ⟨M, h1, h2, h3⟩ := h.at_ j d e
   refine ⟨M, h1, by omega, h3.mono (Sub.refl _) (hw _ h2 fun e2 => x ((h.inj j id d b0 M L e h0 h1 hL e2).elim (fun q => q) fun q => by omega))⟩
 ·have lft : ∀ i d, g' i = some d → ∃ d', g i = some d' := fun i d e => by
   rcases hg i d e with ⟨rfl, rfl⟩ | ⟨_, e⟩
   ·exact ⟨b0, h0⟩
   ·exact ⟨d, e⟩
  obtain ⟨d', e1⟩ := lft i d h1
  obtain ⟨e', e2⟩ := lft j e h2
  exact h.inj i j d' e' M N e1 e2 h3 h4 h5
 ·rcases hg j d e with ⟨rfl, rfl⟩ | ⟨_, e⟩
  ·exact Or.inl ⟨b0, h0⟩
  ·exact Or.inl ⟨d, e⟩
theorem post_drawn {f n : Nat} {β : Bet} {g : View} {w : World} (h : HR f β g w) (k : Nat) : Post f n n β g w β g { w with drawn := k } :=
 ⟨Nat.le_refl _, Sub.refl _, fun i M h1 h2 => by (rw [h2] at h1; cases h1), h.drew k, rfl, rfl, rfl, Nat.le_refl _, fun _ _ _ => rfl, fun i M h1 h2 => by (rw [h2] at h1; cases h1), fun j d e => Or.inl ⟨d, e⟩⟩
theorem put_facts {α : Type} [Inhabited α] (enc : α → Value) (w : World) (k blk off : Nat) (d : Array α) (os : Array Obj) : ∃ w', Go.Sort.grow (Go.Sort.putRow enc (Go.Sort.ahead w k) blk off d) os = w' ∧ w.heap.size ≤ w'.heap.size ∧ w'.os = w.os ∧ w'.tape = w.tape ∧ w'.output = w.output ∧ ∀ B, B < w.heap.size → w'.heap[B]? = (w.heap.modify blk (Go.Sort.onCells (Go.Sort.putCells enc off d)))[B]? := by
 refine ⟨_, rfl, ?_, rfl, rfl, rfl, fun B hB => ?_⟩
 ·unfold Go.Sort.grow Go.Sort.putRow Go.Sort.mapBlock Go.Sort.ahead
  rw [Array.size_append, Array.size_modify]
  exact Nat.le_add_right _ _
 ·unfold Go.Sort.grow Go.Sort.putRow Go.Sort.mapBlock Go.Sort.ahead
  rw [Array.getElem?_append_left (by rw [Array.size_modify]; exact hB)]
section
variable {P : Program} {ng : Nat}
theorem sortSM_ok {f : Nat} (hfn : ∃ fn, P.funcs[f]? = some fn ∧ fn.body.isNone = false ∧ (fn.name == "runtime.NumGoroutine") = false)
  (h0 : ∀ (w : World), Calls P f #[.slice none 0 0] w fun e w' => e = .returned (.tuple #[]) ∧ w' = w)
  (h1 : ∀ (blk off cap : Nat) (ss : List (List UInt8)) (w : World), Go.Sort.Holds encStr w blk off ss.toArray → blk < w.heap.size → ss.length < 4611686018427387904 →
   Calls P f #[.slice (some ⟨blk, off, none⟩) ss.length cap] w fun e w' => e = .returned (.tuple #[]) ∧ ∃ n os, w' = Go.Sort.grow (Go.Sort.putRow encStr (Go.Sort.ahead w n) blk off (ss.mergeSort fun x y => decide (x ≤ y)).toArray) os) : MemoOk P ng (sortSM f) := by
 intro g args c h v h' er hc hw
 unfold sortSM at er
 cases hg : Nat.beq g f with
 | false => rw [hg] at er; cases er
 | true =>
  have := Nat.eq_of_beq_eq_true hg
  subst this
  rw [hg, cond_true] at er
  split at er
  ·simp only [Option.some.injEq, Prod.mk.injEq] at er
   obtain ⟨rfl, rfl⟩ := er
   refine FnDid.up ⟨Step.refl hw, hfn, fun β w cargs hgb hr hv hfr R hR => ?_⟩
   simp only [VRs, VR] at hv
   obtain ⟨_, _, rfl, rfl, rfl⟩ := hv
   refine (h0 w).mono ?_
   rintro e w' ⟨rfl, rfl⟩
   exact hR β _ _ (Post.refl hr) (by simp only [VR, VRs]; exact ⟨_, rfl, rfl⟩)
  ·rename_i id n _
   split at er
   ·rename_i vs l htx
    obtain ⟨hf, hs, er⟩ := setB_some er
    simp only [Option.some.injEq, Prod.mk.injEq] at er
    obtain ⟨rfl, rfl⟩ := er
    obtain ⟨hgb0, hnle, hn0, hnm, htxt⟩ := txtsOf_some htx
    have hget := (getB_get hgb0).1
    have hid : id < 10000000 := Nat.lt_of_lt_of_le (lt_of_get hw hget) hw.small
    refine FnDid.up ⟨step_set hw hget hf hs, hfn, fun β w cargs hgb hr hv hfr R hR => ?_⟩
    simp only [VRs, VR] at hv
    obtain ⟨_, _, rfl, ⟨L, o, cp, hL, rfl, hle, hsz, ho, hcap⟩, rfl⟩ := hv
    obtain ⟨L', q1, q2, cur, e, q3, q4, q5⟩ := hr.at_ id _ (view_cells hgb0)
    rw [hL] at q1; cases q1
    have ho' : o = L.base := by rcases ho with rfl | ⟨z, _⟩ <;> omega
    subst ho'
    have hB := byt_of q5 htxt
    have hH := holds_of q3 q4 q5 htxt hnle
    have hlen := take_len htxt hnle
    have hsl : (sortS l).length = l.length := (sortS_permB l hB).length_eq
    have hfit := q4.fit
    have hsize := q4.le
    have hcall := h1 L.blk L.base cp (l.map ub) w hH q2 (by rw [List.length_map]; omega)
    rw [List.length_map, hlen, sort_merge hB] at hcall
    refine hcall.mono ?_
    rintro e' w' ⟨rfl, k, os, rfl⟩
    obtain ⟨w', ew, s1, s2, s3, s4, hheap⟩ := put_facts encStr w k L.blk L.base ((sortS l).map ub).toArray os
    rw [ew]
    have hv0 : VR β (.tup []) (.tuple #[]) := by simp only [VR, VRs]; exact ⟨_, rfl, rfl⟩
    have hoth : ∀ B, B < w.heap.size → B ≠ L.blk → w'.heap[B]? = w.heap[B]? := fun B hB hne => by
     rw [hheap B hB, Array.getElem?_modify, if_neg (Ne.symm hne)]
    have hown : w'.heap[L.blk]? = some (.cells (Go.Sort.putCells encStr L.base ((sortS l).map ub).toArray cur) e.1 e.2) := by
     rw [hheap _ q2, Array.getElem?_modify, if_pos rfl, q3]; rfl
    have hvs : ∀ j d, view c ⟨Tr.set depth h.t id (.cells ((sortS l).map .str ++ vs.drop n)), h.n⟩ j = some d → (j = id ∧ d = .cells ((sortS l).map .str ++ vs.drop n)) ∨ (j ≠ id ∧ view c h j = some d) := fun j d ej => view_set hid ej
    refine hR β (.tuple #[]) w' (post_writeG (b := .cells ((sortS l).map .str ++ vs.drop n)) hr (view_cells hgb0) hL hf hoth s1 s2 s3 s4 ⟨_, e, hown, ⟨?_, ?_, q4.nf⟩, fun i v hi => ?_⟩ hvs) hv0
    ·simpa [Go.Sort.putCells] using hsize
    ·simp only [List.length_append, List.length_map, List.length_drop]; omega
    ·simp only [Go.Sort.putCells, Array.getElem?_mapIdx]
     rcases Nat.lt_or_ge i n with hin | hin
     ·rw [List.getElem?_append_left (by simp; omega), List.getElem?_map, Option.map_eq_some_iff] at hi
      obtain ⟨s, hs1, rfl⟩ := hi
      have hlt : i < (sortS l).length := (List.getElem?_eq_some_iff.1 hs1).1
      have hse : (sortS l)[i] = s := (List.getElem?_eq_some_iff.1 hs1).2
      have hcur : L.base + i < cur.size := by omega
      rw [Array.getElem?_eq_getElem hcur, Option.map_some, if_pos ⟨by omega, by simp; omega⟩]
      refine ⟨_, rfl, ?_⟩
      simp only [VR]
      refine ⟨_, rfl, ?_⟩
      have e1 : ((sortS l).map ub).toArray[L.base + i - L.base]! = ub s := by
       rw [show L.base + i - L.base = i by omega, getElem!_pos _ i (by simpa using hlt)]
       simp [hse]
      rw [e1]
      have := hB s ((sortS_permB l hB).mem_iff.1 (by rw [← hse]; exact List.getElem_mem hlt))
      simpa using this
     ·rw [List.getElem?_append_right (by simp; omega), List.length_map, List.getElem?_drop, show n + (i - (sortS l).length) = i by omega] at hi
      obtain ⟨c', c1, c2⟩ := q5 i v hi
      refine ⟨c', ?_, c2⟩
      rw [c1, Option.map_some, if_neg (by simp; omega)]
   ·cases er
  ·cases er
theorem compSM_ok {f : Nat} (hfn : ∃ fn, P.funcs[f]? = some fn ∧ fn.body.isNone = false ∧ (fn.name == "runtime.NumGoroutine") = false)
  (h0 : ∀ (w : World), Calls P f #[.slice none 0 0] w fun e w' => e = .returned (.slice none 0 0) ∧ w' = w)
  (h1 : ∀ (blk off cap : Nat) (zs : List (List UInt8)) (w : World), Go.Sort.Holds encStr w blk off zs.toArray → zs.length ≤ 9223372036854775807 → zs.length ≤ cap →
   Calls P f #[.slice (some ⟨blk, off, none⟩) zs.length cap] w fun e w' => e = .returned (.slice (some ⟨blk, off, none⟩) (Lib.compact zs).length cap) ∧ ∃ q, w' = Go.Sort.putRow encStr (Go.Sort.ahead w q) blk off (Lib.compact zs ++ List.replicate (zs.length - (Lib.compact zs).length) []).toArray) : MemoOk P ng (compSM f) := by
 intro g args c h v h' er hc hw
 unfold compSM at er
 cases hg : Nat.beq g f with
 | false => rw [hg] at er; cases er
 | true =>
  have := Nat.eq_of_beq_eq_true hg
  subst this
  rw [hg, cond_true] at er
  split at er
  ·simp only [Option.some.injEq, Prod.mk.injEq] at er
   obtain ⟨rfl, rfl⟩ := er
   refine FnDid.up ⟨Step.refl hw, hfn, fun β w cargs hgb hr hv hfr R hR => ?_⟩
   simp only [VRs, VR] at hv
   obtain ⟨_, _, rfl, rfl, rfl⟩ := hv
   refine (h0 w).mono ?_
   rintro e w' ⟨rfl, rfl⟩
   exact hR β _ _ (Post.refl hr) (by simp only [VR])
  ·rename_i id n cap
   split at er
   ·rename_i vs l htx
    obtain ⟨hgb0, hnle, hn0, hnm, htxt⟩ := txtsOf_some htx
    cases ha : (ascS l && Nat.ble c.floor id) with
    | false => rw [ha] at er; cases er
    | true =>
     rw [ha, cond_true] at er
     rw [Bool.and_eq_true] at ha
     simp only [Option.some.injEq, Prod.mk.injEq] at er
     obtain ⟨rfl, rfl⟩ := er
     refine FnDid.up ⟨Step.refl hw, hfn, fun β w cargs hgb hr hv hfr R hR => ?_⟩
     simp only [VRs, VR] at hv
     obtain ⟨_, _, rfl, ⟨L, o, cp, hL, rfl, hle, hsz, ho, hcap⟩, rfl⟩ := hv
     obtain ⟨L', q1, q2, cur, e, q3, q4, q5⟩ := hr.at_ id _ (view_cells hgb0)
     rw [hL] at q1; cases q1
     have ho' : o = L.base := by rcases ho with rfl | ⟨z, _⟩ <;> omega
     subst ho'
     have hB := byt_of q5 htxt
     have hH := holds_of q3 q4 q5 htxt hnle
     have hlen := take_len htxt hnle
     have hcall := h1 L.blk L.base cp (l.map ub) w hH (by rw [List.length_map]; omega) (by rw [List.length_map]; omega)
     rw [comp_same ha.1 hB, List.length_map, hlen, Nat.sub_self, List.replicate_zero, List.append_nil] at hcall
     refine hcall.mono ?_
     rintro e' w' ⟨rfl, k, rfl⟩
     rw [Go.Sort.putRow_self encStr (Go.Sort.ahead w k) L.blk L.base _ (Go.Sort.holds_ahead encStr w k _ _ _ hH)]
     refine hR β _ _ (post_drawn hr _) ?_
     simp only [VR]
     exact ⟨L, L.base, cp, hL, rfl, hle, hsz, Or.inl (by simp), hcap⟩
   ·cases er
  ·cases er
theorem findSM_ok {f : Nat} (hfn : ∃ fn, P.funcs[f]? = some fn ∧ fn.body.isNone = false ∧ (fn.name == "runtime.NumGoroutine") = false)
  (h0 : ∀ (x : ByteArray) (w : World), Calls P f #[.slice none 0 0, .string x] w fun e w' => e = .returned (.tuple #[.int .i64 0, .bool false]) ∧ w' = w)
  (h1 : ∀ (b off n c : Nat) (Sx : Nat → ByteArray) (x : ByteArray) (w : World), n < 4611686018427387904 → (∀ j, j < n → w.cell? ⟨b, off + j, none⟩ = some (.string (Sx j))) →
   Calls P f #[.slice (some ⟨b, off, none⟩) n c, .string x] w fun e w' => e = .returned (.tuple #[.int .i64 (Lib.bsGo (fun t => Op.bytesLess (Sx t).toList x.toList) n 0 n : Nat), .bool (decide (Lib.bsGo (fun t => Op.bytesLess (Sx t).toList x.toList) n 0 n < n ∧ Sx (Lib.bsGo (fun t => Op.bytesLess (Sx t).toList x.toList) n 0 n) = x))]) ∧ ∃ q, w' = w.drewN q) : MemoOk P ng (findSM f) := by
 intro g args c h v h' er hc hw
 unfold findSM at er
 cases hg : Nat.beq g f with
 | false => rw [hg] at er; cases er
 | true =>
  have := Nat.eq_of_beq_eq_true hg
  subst this
  rw [hg, cond_true] at er
  split at er
  ·simp only [Option.some.injEq, Prod.mk.injEq] at er
   obtain ⟨rfl, rfl⟩ := er
   refine FnDid.up ⟨Step.refl hw, hfn, fun β w cargs hgb hr hv hfr R hR => ?_⟩
   simp only [VRs, VR] at hv
   obtain ⟨_, _, rfl, rfl, _, _, rfl, ⟨x, rfl, _⟩, rfl⟩ := hv
   refine (h0 x w).mono ?_
   rintro e w' ⟨rfl, rfl⟩
   exact hR β _ _ (Post.refl hr) (by simp only [VR, VRs]; exact ⟨_, rfl, _, _, rfl, rfl, _, _, rfl, rfl, rfl⟩)
  ·rename_i id n cap x
   split at er
   ·rename_i vs l htx
    obtain ⟨hgb0, hnle, hn0, hnm, htxt⟩ := txtsOf_some htx
    cases ha : ascS l with
    | false => rw [ha] at er; cases er
    | true =>
     rw [ha, cond_true] at er
     simp only [Option.some.injEq, Prod.mk.injEq] at er
     obtain ⟨rfl, rfl⟩ := er
     refine FnDid.up ⟨Step.refl hw, hfn, fun β w cargs hgb hr hv hfr R hR => ?_⟩
     simp only [VRs, VR] at hv
     obtain ⟨_, _, rfl, ⟨L, o, cp, hL, rfl, hle, hsz, ho, hcap⟩, _, _, rfl, ⟨bx, rfl, hbx⟩, rfl⟩ := hv
     obtain ⟨L', q1, q2, cur, e, q3, q4, q5⟩ := hr.at_ id _ (view_cells hgb0)
     rw [hL] at q1; cases q1
     have ho' : o = L.base := by rcases ho with rfl | ⟨z, _⟩ <;> omega
     subst ho'
     have hB := byt_of q5 htxt
     have hlen := take_len htxt hnle
     have hx : ub x = bx.data.toList := by rw [← hbx]; exact ub_of _
     have hx2 : (ub x).map UInt8.toNat = x := by rw [hx]; exact hbx
     obtain ⟨c1, c2, c3⟩ := cnt_spec x hx2 ha hB
     have hSx : ∀ t, t < n → ((fun t => if t < n then (⟨(ub (l.getD t [])).toArray⟩ : ByteArray) else bx) t) = ⟨(ub (l.getD t [])).toArray⟩ := fun t ht => by simp [ht]
     have hcall := h1 L.blk L.base n cp (fun t => if t < n then ⟨(ub (l.getD t [])).toArray⟩ else bx) bx w (by omega) (fun j hj => by
      rw [cell_get q3, (cell_txt q5 htxt (show j < l.length by omega)).1]
      simp only [if_pos hj]
      simp [List.getD, show j < l.length by omega, encStr])
     have less : ∀ t, t < n → Op.bytesLess ((fun t => if t < n then (⟨(ub (l.getD t [])).toArray⟩ : ByteArray) else bx) t).toList bx.toList = ltL (l.getD t []) x := fun t ht => by
      have hm : l.getD t [] ∈ l := by
       have : t < l.length := by omega
       simp [List.getD, this]
      rw [hSx t ht, Lib.toList_data, Lib.toList_data, bless_eq, ltL_ub (hB _ hm) hx2, hx]
     have hself : Op.bytesLess bx.toList bx.toList = false := by
      rw [bless_eq, decide_eq_false_iff_not]
      exact nlt_self8 _
     have hgo : Lib.bsGo (fun t => Op.bytesLess ((fun t => if t < n then (⟨(ub (l.getD t [])).toArray⟩ : ByteArray) else bx) t).toList bx.toList) n 0 n = cntLt x l := by
      refine Lib.bsGo_spec _ (cntLt x l) (fun t ht => ?_) (fun t ht => ?_) n 0 n (by omega) (by omega) (by omega)
      ·exact (less t (by omega)).trans (c1 t ht)
      ·rcases Nat.lt_or_ge t n with q | q
       ·exact (less t q).trans (c2 t ht (by omega))
       ·show Op.bytesLess (if t < n then _ else bx).toList bx.toList = false
        rw [if_neg (by omega)]
        exact hself
     rw [hgo] at hcall
     refine hcall.mono ?_
     rintro e' w' ⟨rfl, k, rfl⟩
     refine hR β _ _ (post_drawn hr _) ?_
     simp only [VR, VRs]
     refine ⟨_, rfl, _, _, rfl, rfl, _, _, rfl, ?_, rfl⟩
     congr 1
     unfold isAt
     rcases Nat.lt_or_ge (cntLt x l) n with q | q
     ·have hq : cntLt x l < l.length := by omega
      simp only [if_pos q]
      rw [List.drop_eq_getElem_cons hq]
      show _ = eqL l[cntLt x l] x
      rw [eqL_eq, decide_eq_decide]
      have e1 : l.getD (cntLt x l) [] = l[cntLt x l] := by simp [List.getD, hq]
      rw [e1]
      have hm : l[cntLt x l] ∈ l := List.getElem_mem hq
      refine ⟨fun z => ?_, fun z => ⟨q, ?_⟩⟩
      ·have z2 := congrArg (fun b : ByteArray => b.data.toList) z.2
       have z3 : ub l[cntLt x l] = ub x := by rw [hx]; simpa using z2
       rw [← hB _ hm, z3, hx2]
      ·rw [z, hx]
     ·rw [List.drop_eq_nil_of_le (by omega), decide_eq_false_iff_not]
      exact fun z => absurd z.1 (by omega)
   ·cases er
  ·cases er
end
end Go.Proofs.YtmdceifbbmnfgaaGreatDoor.Ev
