/- Plain facts: what the reference's Sort keeps: strictly ascending findings; slices of findings that the call owns, and append. -/
import Derived.Test.YtffmeglcakcpdaaDoorCmpP
import Derived.Deep.AppendLies
set_option linter.unusedVariables false
namespace Go.Proofs.YtffmeglcakcpdaaDoor
open Go.RowKit

/-- a finding put in its place -/
theorem strict_ins {l : List El} {x : El} {k : Nat} (hs : Strict l) (hk : k ≤ l.length) (h1 : ∀ j (h : j < l.length), j < k → cmpEl l[j] x < 0) (h2 : ∀ h : k < l.length, 0 < cmpEl l[k] x) :
    Strict (l.take k ++ [x] ++ l.drop k) := by
  have hc := el_cmp
  have hd : ∀ y ∈ l.drop k, cmpEl x y < 0 := fun y hy => by
    obtain ⟨j, hj, rfl⟩ := List.mem_iff_getElem.1 hy
    have hj' : k + j < l.length := by simp at hj; omega
    rw [List.getElem_drop]
    have a0 := h2 (by omega)
    have an := hc.anti (l[k]'(by omega)) x
    by_cases e : j = 0
    · subst e; simp only [Nat.add_zero]; omega
    · have := (List.pairwise_iff_getElem.1 hs) k (k + j) (by omega) hj' (by omega)
      exact hc.lt_lt (by omega) this
  have ht : ∀ y ∈ l.take k, cmpEl y x < 0 := fun y hy => by
    obtain ⟨j, hj, rfl⟩ := List.mem_iff_getElem.1 hy
    have hj' : j < k ∧ j < l.length := by simp at hj; omega
    rw [List.getElem_take]
    exact h1 j hj'.2 hj'.1
  unfold Strict
  rw [List.append_assoc]
  refine List.pairwise_append.2 ⟨hs.sublist (List.take_sublist _ _), ?_, ?_⟩
  · simp only [List.singleton_append]
    exact List.pairwise_cons.2 ⟨hd, hs.sublist (List.drop_sublist _ _)⟩
  · intro a ha b hb
    simp only [List.singleton_append, List.mem_cons] at hb
    rcases hb with rfl | hb
    · exact ht a ha
    · exact hc.lt_lt (ht a ha) (hd b hb)

/-- what the reference's Sort has so far -/
structure RefS (xs : List El) (i : Nat) (l : List El) : Prop where
  str : Strict l
  sub : ∀ y ∈ l, y ∈ xs
  all : ∀ z ∈ xs.take i, ∃ y ∈ l, cmpEl y z = 0
  len : l.length ≤ i
theorem RefS.start (xs : List El) : RefS xs 0 [] := ⟨List.Pairwise.nil, fun y h => (by cases h), fun z h => (by simp at h), by simp⟩
theorem take_snoc' {xs : List El} {i : Nat} (hi : i < xs.length) : xs.take (i + 1) = xs.take i ++ [xs[i]] := by
  rw [List.take_succ_eq_append_getElem hi]
theorem RefS.same {xs : List El} {i : Nat} {l : List El} (h : RefS xs i l) (hi : i < xs.length) {k : Nat} (hk : k < l.length) (e : cmpEl l[k] xs[i] = 0) : RefS xs (i + 1) l :=
  ⟨h.str, h.sub, fun z hz => by
    rw [take_snoc' hi, List.mem_append] at hz
    rcases hz with hz | hz
    · exact h.all z hz
    · rw [List.mem_singleton] at hz; subst hz; exact ⟨_, List.getElem_mem hk, e⟩, by have := h.len; omega⟩
theorem RefS.ins {xs : List El} {i : Nat} {l : List El} (h : RefS xs i l) (hi : i < xs.length) {k : Nat} (hk : k ≤ l.length) (h1 : ∀ j (h : j < l.length), j < k → cmpEl l[j] xs[i] < 0) (h2 : ∀ h : k < l.length, 0 < cmpEl l[k] xs[i]) :
    RefS xs (i + 1) (l.take k ++ [xs[i]] ++ l.drop k) := by
  have hm : ∀ y, y ∈ l.take k ++ [xs[i]] ++ l.drop k ↔ y ∈ l ∨ y = xs[i] := fun y => by
    have : y ∈ l ↔ y ∈ l.take k ∨ y ∈ l.drop k := by rw [← List.mem_append, List.take_append_drop]
    rw [this]; simp; grind
  refine ⟨strict_ins h.str hk h1 h2, fun y hy => ?_, fun z hz => ?_, ?_⟩
  · rcases (hm y).1 hy with hy | rfl
    · exact h.sub y hy
    · exact List.getElem_mem hi
  · rw [take_snoc' hi, List.mem_append] at hz
    rcases hz with hz | hz
    · obtain ⟨y, hy, e⟩ := h.all z hz
      exact ⟨y, (hm y).2 (Or.inl hy), e⟩
    · rw [List.mem_singleton] at hz; subst hz; exact ⟨_, (hm _).2 (Or.inr rfl), el_cmp.refl _⟩
  · have := h.len; simp; omega
/-- the sort of the program and the reference's are the same -/
theorem refS_same {xs t l : List El} (hp : t.Perm xs) (hs : Srt.Sorted cmpEl t) (h : RefS xs xs.length l) : SameEls (compact t) l := by
  obtain ⟨a1, b1⟩ := compact_strict hs
  refine strict_same _ _ a1 h.str (fun x hx => ?_) (fun y hy => ?_)
  · obtain ⟨y, hy, e⟩ := h.all x (by rw [List.take_length]; exact hp.subset (compact_sub x hx))
    exact ⟨y, hy, by have := el_cmp.anti y x; omega⟩
  · obtain ⟨x, hx, e⟩ := b1 y (hp.symm.subset (h.sub y hy))
    exact ⟨x, hx, e⟩

/-! a slice that the call owns -/
def OwnEl (B : Nat) (w : World) (v : Value) (xs : List El) : Prop := w.ownsRow B 26 6 v xs.length (flatFd xs)
/-- what an append takes from -/
def SrcEl (w : World) (x : Value) (ys : List El) : Prop := (∃ c, x = .slice none 0 c ∧ ys = []) ∨ ∃ a c, x = .slice (some a) ys.length c ∧ ∀ j u, (flatFd ys)[j]? = some u → w.cell? (a.add j) = some u
theorem ownsRow_base {w : World} {B B' : Nat} {e : TypeId} {size : Nat} {v : Value} {n : Nat} {xs : List Value} (h : w.ownsRow B e size v n xs) (hB : B' ≤ B) : w.ownsRow B' e size v n xs := by
  obtain ⟨h1, h2 | ⟨g, cap, cur, a, b, c⟩⟩ := h
  · exact ⟨h1, Or.inl h2⟩
  · exact ⟨h1, Or.inr ⟨g, cap, cur, a, Nat.le_trans hB b, c⟩⟩
theorem OwnEl.base {w : World} {B B' : Nat} {v : Value} {xs : List El} (h : OwnEl B w v xs) (hB : B' ≤ B) : OwnEl B' w v xs := ownsRow_base h hB
theorem OwnEl.alloc {w : World} {B : Nat} {v : Value} {xs : List El} (h : OwnEl B w v xs) (o : Obj) : OwnEl B (w.alloc o) v xs := World.ownsRow.alloc h o
theorem OwnEl.nil (B : Nat) (w : World) : OwnEl B w (.slice none 0 0) [] := World.ownsRow_nil w B _ _
theorem OwnEl.made {w : World} {B : Nat} (hB : B ≤ w.heap.size) : OwnEl B (w.alloc (.cells #[] 26)) (.slice (some ⟨w.heap.size, 0, none⟩) 0 0) [] := OwnEl.base (owns_empty w 26 6) hB
theorem flatFd_append (xs ys : List El) : flatFd (xs ++ ys) = flatFd xs ++ flatFd ys := by unfold flatFd; rw [List.flatMap_append]
/-- what an own slice looks like -/
theorem OwnEl.form {w : World} {B : Nat} {v : Value} {xs : List El} (h : OwnEl B w v xs) : ∃ a cap, v = .slice a xs.length cap ∧ xs.length ≤ cap ∧ ElsOf w a xs ∧ (a = none → xs = [] ∧ cap = 0) ∧ (∀ b o s, a = some ⟨b, o, s⟩ → B ≤ b ∧ o = 0 ∧ s = none) := by
  obtain ⟨h1, ⟨h2, h3⟩ | ⟨g, cap, cur, hv2, hg, hh, hc1, hc2, hc3, hc4⟩⟩ := h
  · have : xs = [] := List.length_eq_zero_iff.1 h3
    subst this
    exact ⟨none, 0, h2, by simp, Or.inl rfl, fun _ => ⟨rfl, rfl⟩, (fun b o s e => by cases e)⟩
  · have hlt : g < w.heap.size := (Array.getElem?_eq_some_iff.1 hh).1
    have hcell : ∀ j, j < xs.length * 6 → w.cell? ⟨g, j, none⟩ = (flatFd xs)[j]? := fun j hj => by
      unfold World.cell?
      simp only [hh, Option.isSome_none, Bool.false_eq_true, if_false]
      rw [← hc4, List.getElem?_take_of_lt (by omega), Array.getElem?_toList]
    refine ⟨some ⟨g, 0, none⟩, cap, hv2, hc1, Or.inr ⟨g, 0, rfl, hlt, fun i hi => ?_⟩, (fun e => by cases e), (fun b o s e => by cases e; exact ⟨hg, rfl, rfl⟩)⟩
    have c : ∀ j, j < 6 → w.cell? ⟨g, 0 + i * 6 + j, none⟩ = (xs[i]).cells[j]? := fun j hj => by
      rw [Nat.zero_add, hcell _ (by omega), flatFd_at xs i hi j hj]
    exact ⟨c 0 (by omega), c 1 (by omega), c 2 (by omega), c 3 (by omega), c 4 (by omega), c 5 (by omega)⟩

theorem infoFd' : ∃ i, Tryd.prog.info? 26 = some i ∧ i.zero = some (.agg zeroFd) ∧ i.size = 6 ∧ i.bytes = 88 := info_parts infoFd
/-- append of findings -/
theorem run_appEl (w : World) (ty : TypeId) {B : Nat} {v x : Value} {xs ys : List El} (hown : OwnEl B w v xs) (hsrc : SrcEl w x ys) (hn : (xs.length + ys.length) * 88 ≤ 140737488355328) (hB : B ≤ w.heap.size) :
    ∃ v' w', (Builtin.append_ #[33, 33] ty #[v, x]).run Tryd.prog w = .ok v' w' ∧ OwnEl B w' v' (xs ++ ys) ∧ w.grownBy w' v.ownBlock ∧ (v'.ownBlock = v.ownBlock ∨ v'.ownBlock = some w.heap.size) := by
  obtain ⟨i0, hi, hz0, hz1, hz2⟩ := infoFd'
  rcases hsrc with ⟨c, rfl, rfl⟩ | ⟨a, c, rfl, hc⟩
  · obtain ⟨al, cap, rfl, hcap, _⟩ := hown.form
    refine ⟨.slice al xs.length cap, w, ?_, by rw [List.append_nil]; exact hown, ?_, Or.inl rfl⟩
    · have hk := run_underlying (P := Tryd.prog) (w := w) Tryd.underlying33
      have hf := run_firstCells_none (P := Tryd.prog) w i0.size 0 0 c
      cases al with
      | none => simp [Builtin.append_, run_underlying Tryd.underlying33, sizeOf, typeInfo, hi, Builtin.lenOf, hcap, hf]
      | some al => simp [Builtin.append_, run_underlying Tryd.underlying33, sizeOf, typeInfo, hi, Builtin.lenOf, hcap, hf, storeCells]
    · exact World.grownBy.refl _ _
  · obtain ⟨v', w', h1, h2, h3, h4, h5⟩ := run_append_own_at (P := Tryd.prog) w B 33 ty 26 i0 (.agg zeroFd) 6 88 Tryd.underlying33 hi hz0 hz1 hz2 rfl (by decide) v xs.length (flatFd xs) hown a ys.length c (flatFd ys) (flatFd_length ys) hc (flatFd_one ys) (by unfold maxLen; omega) hn hB
    refine ⟨v', w', h1, ?_, h3, h5⟩
    unfold OwnEl
    rw [flatFd_append, List.length_append]
    exact h2
end Go.Proofs.YtffmeglcakcpdaaDoor
