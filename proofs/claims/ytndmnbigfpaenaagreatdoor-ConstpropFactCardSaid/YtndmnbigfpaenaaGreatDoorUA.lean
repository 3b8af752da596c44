/- A unit's functions in memory; the fact of a variable, in plain terms. -/
import Derived.Test.YtndmnbigfpaenaaGreatDoorProg
import Derived.WalkKit
import Derived.WalkSpells
import Derived.WalkLawsBesides
import Derived.Handy
import Derived.Lib.Hide
set_option linter.unusedVariables false
namespace Go.Proofs.YtndmnbigfpaenaaGreatDoor
open Go.RowKit
theorem ret_int {k : IntKind} {a b : Int} (h : a = b) : Ending.returned (.int k a) = .returned (.int k b) := by rw [h]
theorem ret_bool {a b : Bool} (h : a = b) : Ending.returned (.bool a) = .returned (.bool b) := by rw [h]
/-- what a callee leaves, behind what was done before -/
theorem over {B : Nat} {w W w1 : World} (h1 : Below W.heap.size W w1) (h : Below B w W) (hB : B ≤ W.heap.size) : Below B w w1 := h.trans (h1.mono hB)
/-- a function of a unit, as its cells are -/
structure Fn where
  cls : ByteArray
  name : ByteArray
  stat : Bool
  params : Int
  va : Option Addr
  vn : Nat
  vc : Nat
  res : ByteArray
  ca : Option Addr
  cn : Nat
  cc : Nat
  deriving Inhabited
abbrev Fn.cells (x : Fn) : List Value := [.string x.cls, .string x.name, .bool x.stat, .int .i64 x.params, .slice x.va x.vn x.vc, .string x.res, .slice x.ca x.cn x.cc]
/-- the functions of a slice lie in memory -/
def FnsAt (w : World) (a : Option Addr) (fs : List Fn) : Prop :=
  fs = [] ∨ ∃ b off, a = some ⟨b, off, none⟩ ∧ b < w.heap.size ∧ ∀ i (h : i < fs.length), ∀ j, j < 7 → w.cell? ⟨b, off + i * 7 + j, none⟩ = fs[i].cells[j]?
theorem FnsAt.below {w w' : World} {a : Option Addr} {fs : List Fn} (h : FnsAt w a fs) (hb : Below w.heap.size w w') : FnsAt w' a fs := by
  rcases h with h | ⟨b, off, h1, h2, h3⟩
  · exact Or.inl h
  · refine Or.inr ⟨b, off, h1, Nat.lt_of_lt_of_le h2 hb.size, fun i hi j hj => ?_⟩
    rw [hb.cell (p := ⟨b, _, none⟩) h2]
    exact h3 i hi j hj
theorem FnsAt.get {w : World} {a : Option Addr} {fs : List Fn} (h : FnsAt w a fs) {k : Nat} (hk : k < fs.length) :
    ∃ b off, a = some ⟨b, off, none⟩ ∧ b < w.heap.size ∧ w.cell? ⟨b, off + k * 7, none⟩ = some (.string fs[k].cls) ∧ w.cell? ⟨b, off + k * 7 + 1, none⟩ = some (.string fs[k].name) ∧ w.cell? ⟨b, off + k * 7 + 2, none⟩ = some (.bool fs[k].stat) ∧ w.cell? ⟨b, off + k * 7 + 3, none⟩ = some (.int .i64 fs[k].params) ∧ w.cell? ⟨b, off + k * 7 + 4, none⟩ = some (.slice fs[k].va fs[k].vn fs[k].vc) ∧ w.cell? ⟨b, off + k * 7 + 5, none⟩ = some (.string fs[k].res) ∧ w.cell? ⟨b, off + k * 7 + 6, none⟩ = some (.slice fs[k].ca fs[k].cn fs[k].cc) := by
  rcases h with rfl | ⟨b, off, h1, h2, h3⟩
  · simp at hk
  · exact ⟨b, off, h1, h2, h3 k hk 0 (by omega), h3 k hk 1 (by omega), h3 k hk 2 (by omega), h3 k hk 3 (by omega), h3 k hk 4 (by omega), h3 k hk 5 (by omega), h3 k hk 6 (by omega)⟩
/-- the facts of the first k functions -/
def pre (fs : List Fn) : Nat → Nat
  | 0 => 0
  | k + 1 => pre fs k + ((fs[k]?.getD default).vn + 2)
theorem pre_succ {fs : List Fn} {k : Nat} (h : k < fs.length) : pre fs (k + 1) = pre fs k + (fs[k].vn + 2) := by
  rw [pre, List.getElem?_eq_getElem h]; rfl
theorem pre_le {fs : List Fn} (hv : ∀ x ∈ fs, x.vn ≤ 140737488355328) : ∀ k, k ≤ fs.length → pre fs k ≤ k * 140737488355330
  | 0, _ => by simp [pre]
  | k + 1, h => by
    have := pre_le hv k (by omega)
    rw [pre_succ (by omega)]
    have := hv fs[k] (List.getElem_mem _)
    omega
theorem pre_bound {fs : List Fn} (hv : ∀ x ∈ fs, x.vn ≤ 140737488355328) (hn : fs.length ≤ 60) {k : Nat} (hk : k ≤ fs.length) : pre fs k ≤ 8444249301319800 := by
  have := pre_le hv k hk
  omega
/-- the fact of a variable -/
def factOf (fs : List Fn) (f v : Int) : Int :=
  if f < 0 ∨ (fs.length : Int) ≤ f ∨ v < 0 ∨ ((fs[f.toNat]?.getD default).vn : Int) + 1 < v then -1 else 1 + v + (pre fs f.toNat : Int)
theorem factOf_neg {fs : List Fn} {f v : Int} (h : f < 0) : factOf fs f v = -1 := by unfold factOf; rw [if_pos (Or.inl h)]
theorem factOf_ge {fs : List Fn} {f v : Int} (h : (fs.length : Int) ≤ f) : factOf fs f v = -1 := by unfold factOf; rw [if_pos (Or.inr (Or.inl h))]
theorem factOf_vneg {fs : List Fn} {f v : Int} (h : v < 0) : factOf fs f v = -1 := by unfold factOf; rw [if_pos (Or.inr (Or.inr (Or.inl h)))]
theorem factOf_vbig {fs : List Fn} {k : Nat} (hk : k < fs.length) {v : Int} (h : (fs[k].vn : Int) + 1 < v) : factOf fs (k : Int) v = -1 := by
  unfold factOf
  have e : ((k : Int).toNat) = k := by simp
  rw [e, List.getElem?_eq_getElem hk, Option.getD_some, if_pos (Or.inr (Or.inr (Or.inr h)))]
theorem factOf_in {fs : List Fn} {k : Nat} (hk : k < fs.length) {v : Int} (h0 : ¬ v < 0) (h : ¬ (fs[k].vn : Int) + 1 < v) : factOf fs (k : Int) v = 1 + v + (pre fs k : Int) := by
  unfold factOf
  have e : ((k : Int).toNat) = k := by simp
  rw [e, List.getElem?_eq_getElem hk, Option.getD_some, if_neg]
  rintro (q | q | q | q)
  · omega
  · omega
  · exact h0 q
  · exact h q
end Go.Proofs.YtndmnbigfpaenaaGreatDoor
