/- How a slice of findings is read. -/
import Derived.Test.YtffmeglcakcpdaaDoorLift
import Derived.Test.YtffmeglcakcpdaaDoorWalkU
set_option linter.unusedVariables false
namespace Go.Proofs.YtffmeglcakcpdaaDoor
open Go.ChangeShapes Go.WideShapes Go.ChangeAt Go.RowKit Go.Deep
section
variable {H : Type} {enc : TypeId × Value → H} {w : World} {held : Bool}
theorem weightsAll_mem {P : Program} {e : TypeId} {d : DataW H} : ∀ {ds : List (DataW H)}, d ∈ ds → ∀ n ∈ DataW.weights P e d, n ∈ DataW.weightsAll P e ds
  | x :: ds, h, n, hn => by
    rw [DataW.weightsAll, List.mem_append]
    rcases List.mem_cons.1 h with rfl | h
    · exact Or.inl hn
    · exact Or.inr (weightsAll_mem h n hn)

/-- a slice of findings -/
theorem open_finds {n : Nat} {cs : List Value} {y : DataW H × List MemPlace} (h : DataW.trod enc Tryd.prog w 0 (fun _ => true) held n 33 cs = some y) (hw : ∀ n ∈ DataW.weights Tryd.prog 33 y.1, n ≤ reachBytes) :
    ∃ a cp xs, cs = [.slice a xs.length cp] ∧ ElsOf w a xs ∧ (∀ x ∈ xs, GoodIn w x) ∧ (∀ x ∈ xs, x.f.path.length * 40 ≤ 140737488355328) ∧ xs.length * 88 ≤ 140737488355328 ∧ (a = none → xs = []) := by
  rcases open_slice Tryd.underlying33 h with ⟨rfl, rfl⟩ | ⟨a, len, cap, m, n', D, Q, rfl, hb, hl, hm, hmm, rfl, hi⟩
  · exact ⟨none, 0, [], rfl, Or.inl rfl, by simp, by simp, by simp, fun _ => rfl⟩
  · rw [if_pos rfl] at hmm
    subst hmm
    simp only [DataW.weights, Tryd.underlying33, List.mem_cons, List.mem_append, forall_eq_or_imp] at hw
    obtain ⟨hw1, hw2⟩ := hw
    rw [bytesFd] at hw1
    simp only [List.length_map, List.length_range] at hw1
    unfold reachBytes at hw1
    have hp : ∀ i, i < len → ∃ x : El, w.cells? 0 (a.add (i * 6)) 6 = some x.cells ∧ GoodIn w x ∧ x.f.path.length * 40 ≤ 140737488355328 := fun i hil => by
      obtain ⟨cs', h1, h2⟩ := hi i (by omega)
      rw [cellsFd] at h1
      obtain ⟨x, pa, cp, d, rfl, hd, hr, hk, hin⟩ := open_finding h2
      have hok := ok_of_weights (x := x) (a := pa) (d := d) (w := w) (fun n hn => by
        rw [← hd] at hn
        exact hw2 n (Or.inl (weightsAll_mem (List.mem_map.2 ⟨i, by simpa using hil, rfl⟩) n hn))) hr hk hin
      exact ⟨⟨x, pa, cp⟩, h1, ⟨hok.1, hr.path⟩, by have := hok.2; show x.path.length * 40 ≤ _; omega⟩
    obtain ⟨f, hf⟩ := @choose_lt El ⟨default⟩ len (fun i x => w.cells? 0 (a.add (i * 6)) 6 = some x.cells ∧ GoodIn w x ∧ x.f.path.length * 40 ≤ 140737488355328) hp
    refine ⟨some a, m, (List.range len).map f, by simp, ?_, ?_, ?_, by simp; omega, fun e => by cases e⟩
    · by_cases hz : len = 0
      · left; simp [hz]
      · right
        have hc : ∀ i, i < len → ∀ j, j < 6 → w.cell? (a.add (i * 6 + j)) = (f i).cells[j]? := fun i hil j hj => by
          obtain ⟨_, _, hat⟩ := World.cells?_some (hf i hil).1
          rw [← add_add]
          exact hat j hj
        obtain ⟨b, off, spot⟩ := a
        have hs : spot = none := by
          have := hc 0 (by omega) 0 (by omega)
          simpa [Addr.add] using World.cell?_spot this
        subst hs
        have hbl : b < w.heap.size := by
          have := hc 0 (by omega) 0 (by omega)
          exact block_lt_of_cell (by simpa [Addr.add] using this)
        refine ⟨b, off, rfl, hbl, fun i hi' => ?_⟩
        have hil : i < len := by simpa using hi'
        have ha : ∀ j, (⟨b, off, none⟩ : Addr).add j = ⟨b, off + j, none⟩ := fun j => by unfold Addr.add; split <;> simp_all
        have c : ∀ j, j < 6 → w.cell? ⟨b, off + i * 6 + j, none⟩ = (f i).cells[j]? := fun j hj => by
          have := hc i hil j hj
          rw [ha, ← Nat.add_assoc] at this
          exact this
        simp only [List.getElem_map, List.getElem_range]
        exact ⟨c 0 (by omega), c 1 (by omega), c 2 (by omega), c 3 (by omega), c 4 (by omega), c 5 (by omega)⟩
    · intro p hp'
      obtain ⟨i, hi', rfl⟩ := List.mem_map.1 hp'
      exact (hf i (by simpa using hi')).2.1
    · intro p hp'
      obtain ⟨i, hi', rfl⟩ := List.mem_map.1 hp'
      exact (hf i (by simpa using hi')).2.2
end
end Go.Proofs.YtffmeglcakcpdaaDoor
