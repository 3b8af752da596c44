/- sortBy and Sort of package finding. -/
import Derived.Test.YtffmeglcakcpdaaDoorWalkP
import Derived.Laws.EntriesVeiled
set_option linter.unusedVariables false
namespace Go.Proofs.YtffmeglcakcpdaaDoor
open Go.RowKit

/-- a finding whose path lies in memory -/
structure GoodIn (w : World) (x : El) : Prop where
  ok : x.f.Ok
  path : PathAt w x.a x.f.path
theorem GoodIn.below {w w' : World} {x : El} (h : GoodIn w x) (hb : Below w.heap.size w w') : GoodIn w' x :=
  ⟨h.ok, h.path.below hb⟩
theorem PathAt.lt {w : World} {a : Option Addr} {ps : List Pl} (h : PathAt w a ps) (hne : ps ≠ []) {b o : Nat} {s : Option _} (e : a = some ⟨b, o, s⟩) : b < w.heap.size := by
  rcases h with h | ⟨b', off, h1, hlt, _⟩
  · exact absurd h hne
  · rw [h1] at e; cases e; exact hlt
theorem GoodIn.good {w w1 : World} {x : El} {g : Nat} (h : GoodIn w x) (hb : Below w.heap.size w w1) (hg : w.heap.size ≤ g) : Good w1 g x :=
  ⟨h.ok, h.path.below hb, fun hne b o s e => by have := h.path.lt hne e; omega⟩

theorem compactFrom_sub : ∀ (xs : List El) (p : El), ∀ x ∈ compactFrom p xs, x ∈ xs
  | [], _, x, h => h
  | y :: ys, p, x, h => by
    rw [compactFrom] at h
    split at h
    · exact List.mem_cons_of_mem _ (compactFrom_sub ys y x h)
    · rcases List.mem_cons.1 h with rfl | h
      · simp
      · exact List.mem_cons_of_mem _ (compactFrom_sub ys y x h)
theorem compact_sub {xs : List El} : ∀ x ∈ compact xs, x ∈ xs := by
  cases xs with
  | nil => intro x h; exact h
  | cons y ys =>
    intro x h
    rcases List.mem_cons.1 h with rfl | h
    · simp
    · exact List.mem_cons_of_mem _ (compactFrom_sub ys y x h)
theorem compactFrom_len : ∀ (xs : List El) (p : El), (compactFrom p xs).length ≤ xs.length
  | [], _ => Nat.le_refl _
  | y :: ys, p => by
    rw [compactFrom]
    have := compactFrom_len ys y
    split <;> simp <;> omega
theorem compact_len (xs : List El) : (compact xs).length ≤ xs.length := by
  cases xs with
  | nil => exact Nat.le_refl _
  | cons y ys => have := compactFrom_len ys y; simp [compact]; omega

/-- what a sort of findings leaves -/
def SortedFd (w : World) (xs : List El) (e : Ending) (w' : World) : Prop :=
  ∃ g cap t w1, e = .returned (.slice (some ⟨g, 0, none⟩) (compact t).length cap) ∧ w.heap.size ≤ g ∧ (compact t).length ≤ cap ∧ t.Perm xs ∧ Srt.Sorted cmpEl t ∧ Row w1 g (compact t) w' ∧ Below w.heap.size w w1

set_option maxHeartbeats 4000000 in
theorem sortBy_some (a : Addr) (cp : Nat) (xs : List El) (w : World) (hn : xs.length ≤ 1099511627776) (h : ElsIn w a xs) (hG : ∀ x ∈ xs, GoodIn w x) :
    Calls Tryd.prog 32 #[.slice (some a) xs.length cp, cmpV] w (SortedFd w xs) := by
  have HE := Lib.hid h
  have HG := Lib.hid hG
  clear h hG
  go_enter Tryd.func32, Tryd.ntmps32
  go_wp2_with fail
  have HE1 : Hid (ElsIn (w.alloc (.cells #[cmpV] 28)) a xs) := HE.out.below (by go_grown)
  have B1 : Hid (Below w.heap.size w (w.alloc (.cells #[cmpV] 28))) := by unfold Hid; go_grown
  have hs1 : (w.alloc (.cells #[cmpV] 28)).heap.size = w.heap.size + 1 := by simp
  have hc1 : (w.alloc (.cells #[cmpV] 28)).cell? ⟨w.heap.size, 0, none⟩ = some cmpV := by go_simp
  have HS1 := Lib.hid hs1
  have HC1 := Lib.hid hc1
  clear hs1 hc1
  change Calls Tryd.prog _ _ (w.alloc (.cells #[cmpV] 28)) _
  generalize w.alloc (.cells #[cmpV] 28) = W1 at *
  refine (cloneFd_some a cp xs W1 (by omega) HE1.out).mono ?_
  rintro e w2 ⟨g, cap, rfl, hg, hcap, R, hb2⟩
  have hgl : w.heap.size + 1 ≤ g := by have := HS1.out; omega
  have HC2 : w2.cell? ⟨w.heap.size, 0, none⟩ = some cmpV := by rw [hb2.cell (p := ⟨w.heap.size, 0, none⟩) (by have := HS1.out; simp; omega)]; exact HC1.out
  have B2 : Hid (Below w.heap.size w w2) := over hb2 B1.out B1.out.size
  have HR := Lib.hid R
  have HGG : Hid (∀ x ∈ xs, Good w2 g x) := fun x hx => (HG.out x hx).good B2.out (by omega)
  have HC3 := Lib.hid HC2
  clear hb2 R hg
  go_wp2_with fail
  refine (sortStable_any g cap xs w2 w2 HR.out hn HGG.out).mono ?_
  rintro e w3 ⟨rfl, t, ht1, ht2, R3⟩
  have ht3 : xs.length = t.length := ht1.length_eq.symm
  have hc3 : w3.cell? ⟨w.heap.size, 0, none⟩ = some cmpV := R3.box HC3.out (by omega)
  have HR3 := Lib.hid R3
  have HT := Lib.hid (And.intro ht1 ht2)
  have HG3 : Hid (∀ x ∈ t, Good w2 g x) := fun x hx => HGG.out x (HT.out.1.subset hx)
  have HT3 := Lib.hid ht3
  clear R3 ht1 ht2 ht3 HC2
  go_wp2_with fail
  rw [HT3.out]
  refine (compactFunc_any g cap w.heap.size t w2 w3 HR3.out (by rw [← HT3.out]; exact hcap) (by rw [← HT3.out]; omega) HG3.out HC3.out (by omega)).mono ?_
  rintro e w4 ⟨rfl, R4⟩
  have HF : Hid (SortedFd w xs (.returned (.slice (some ⟨g, 0, none⟩) (compact t).length cap)) w4) := ⟨g, cap, t, w2, rfl, by omega, Nat.le_trans (compact_len t) (by rw [← HT3.out]; exact hcap), HT.out.1, HT.out.2, R4, B2.out⟩
  clear R4
  go_wp2_with fail
  go_ret
  exact HF.out

/-! the nil slice -/
set_option maxHeartbeats 4000000 in
theorem insertion_none (w : World) : Calls Tryd.prog 60 #[.slice none 0 0, .int .i64 0, .int .i64 0, cmpV] w fun e w' => e = .returned (.tuple #[]) ∧ w = w' := by
  go_enter Tryd.func60, Tryd.ntmps60
  go_wp2_with fail
  refine wp_loop_rounds 1 ?_
  rw [rounds_succ]
  go_wp2_with fail
  go_end0
  exact ⟨rfl, rfl⟩
set_option maxHeartbeats 4000000 in
theorem stable_none (w : World) : Calls Tryd.prog 53 #[.slice none 0 0, .int .i64 0, cmpV] w fun e w' => e = .returned (.tuple #[]) ∧ w = w' := by
  go_enter Tryd.func53, Tryd.ntmps53
  go_wp2_with fail
  refine wp_loop_rounds 1 ?_
  rw [rounds_succ]
  go_wp2_with fail
  refine (insertion_none _).mono ?_
  rintro e w' ⟨rfl, rfl⟩
  go_wp2_with fail
  refine wp_loop_rounds 1 ?_
  rw [rounds_succ]
  go_wp2_with fail
  go_end0
  exact ⟨rfl, rfl⟩
set_option maxHeartbeats 4000000 in
theorem sortStable_none (w : World) : Calls Tryd.prog 41 #[.slice none 0 0, cmpV] w fun e w' => e = .returned (.tuple #[]) ∧ w = w' := by
  go_enter Tryd.func41, Tryd.ntmps41
  go_wp2_with fail
  refine (stable_none _).mono ?_
  rintro e w' ⟨rfl, rfl⟩
  go_wp2_with fail
  go_end0
  exact ⟨rfl, rfl⟩
set_option maxHeartbeats 4000000 in
theorem compact_none (fv : Value) (w : World) : Calls Tryd.prog 42 #[.slice none 0 0, fv] w fun e w' => e = .returned (.slice none 0 0) ∧ w = w' := by
  go_enter Tryd.func42, Tryd.ntmps42
  go_wp2_with fail
  go_ret
  exact ⟨rfl, rfl⟩
set_option maxHeartbeats 4000000 in
theorem sortBy_nil (cp : Nat) (w : World) :
    Calls Tryd.prog 32 #[.slice none 0 cp, cmpV] w fun e w' => e = .returned (.slice none 0 0) ∧ Below w.heap.size w w' := by
  go_enter Tryd.func32, Tryd.ntmps32
  go_wp2_with fail
  refine (cloneFd_nil cp _).mono ?_
  rintro e w' ⟨rfl, rfl⟩
  go_wp2_with fail
  refine (sortStable_none _).mono ?_
  rintro e w' ⟨rfl, rfl⟩
  go_wp2_with fail
  refine (compact_none _ _).mono ?_
  rintro e w' ⟨rfl, rfl⟩
  go_wp2_with fail
  go_ret
  exact ⟨rfl, by go_grown⟩

/-! Sort: the paths are cloned -/
/-- a row whose first k paths are new -/
structure Fresh (w : World) (g : Nat) (ys zs : List El) (k : Nat) (w1 W : World) : Prop where
  len : zs.length = ys.length
  same : ∀ i (h : i < zs.length) (h' : i < ys.length), zs[i].f = ys[i].f
  late : ∀ i (h : i < zs.length) (h' : i < ys.length), k ≤ i → zs[i] = ys[i]
  row : Row w1 g zs W
  good : ∀ i (h : i < zs.length), GoodIn W zs[i]
  sep : ∀ i (h : i < zs.length), zs[i].f.path ≠ [] → ∀ b o s, zs[i].a = some ⟨b, o, s⟩ → b ≠ g
theorem Row.belowOf {w w1 W : World} {B g : Nat} {zs : List El} (h : Row w1 g zs W) (hb : Below B w w1) (hB : B ≤ g) : Below B w W :=
  ⟨h.os.trans hb.os, h.tape.trans hb.tape, h.output.trans hb.output, Nat.le_trans hb.size h.size, fun k hk => by
    rw [h.others k (by have := h.blt; omega) (by omega)]; exact hb.block k hk⟩
theorem PathAt.setCell {W : World} {a : Option Addr} {ps : List Pl} (h : PathAt W a ps) {g o : Nat} {v : Value} (hne : ps ≠ [] → ∀ b o s, a = some ⟨b, o, s⟩ → b ≠ g) : PathAt (W.setCell ⟨g, o, none⟩ v) a ps := by
  by_cases hps : ps = []
  · exact Or.inl hps
  rcases h with h | ⟨b, off, h1, h2, h3⟩
  · exact Or.inl h
  · have e : (W.setCell ⟨g, o, none⟩ v).heap[b]? = W.heap[b]? := Below.heap_setCell _ _ _ _ (hne hps _ _ _ h1)
    refine Or.inr ⟨b, off, h1, by simpa [World.setCell] using h2, fun i hi => ?_⟩
    rw [World.cell?_of_block (w := W) (a := ⟨b, _, none⟩) e, World.cell?_of_block (w := W) (a := ⟨b, _, none⟩) e, World.cell?_of_block (w := W) (a := ⟨b, _, none⟩) e]
    exact h3 i hi
theorem GoodIn.setCell {W : World} {x : El} (h : GoodIn W x) {g o : Nat} {v : Value} (hne : x.f.path ≠ [] → ∀ b o s, x.a = some ⟨b, o, s⟩ → b ≠ g) : GoodIn (W.setCell ⟨g, o, none⟩ v) x :=
  ⟨h.ok, h.path.setCell hne⟩
theorem Row.setPath {w1 W : World} {g : Nat} {zs : List El} (h : Row w1 g zs W) (i : Nat) (hi : i < zs.length) (a : Option Addr) (cp : Nat) :
    Row w1 g (zs.set i ⟨zs[i].f, a, cp⟩) (W.setCell ⟨g, i * 6 + 5, none⟩ (.slice a zs[i].f.path.length cp)) := by
  refine ⟨h.os, h.tape, h.output, by simpa [World.setCell] using h.size, h.blt, fun k hk hne => by rw [Below.heap_setCell _ _ _ _ hne]; exact h.others k hk hne, fun j hj => ?_, fun o ho => ?_⟩
  · rw [List.length_set] at hj
    obtain ⟨a0, a1, a2, a3, a4, a5⟩ := h.six j hj
    have out : ∀ q, j * 6 + q ≠ i * 6 + 5 → (W.setCell ⟨g, i * 6 + 5, none⟩ (.slice a zs[i].f.path.length cp)).cell? ⟨g, j * 6 + q, none⟩ = W.cell? ⟨g, j * 6 + q, none⟩ := fun q hq =>
      World.cell?_setCell_other _ _ _ _ (fun e => hq (by injection e with _ e2; exact e2.symm))
    by_cases e : i = j
    · subst e
      rw [List.getElem_set_self]
      exact ⟨(out 0 (by omega)).trans a0, (out 1 (by omega)).trans a1, (out 2 (by omega)).trans a2, (out 3 (by omega)).trans a3, (out 4 (by omega)).trans a4, World.cell?_setCell_same _ _ _ a5⟩
    · rw [List.getElem_set_ne e]
      exact ⟨(out 0 (by omega)).trans a0, (out 1 (by omega)).trans a1, (out 2 (by omega)).trans a2, (out 3 (by omega)).trans a3, (out 4 (by omega)).trans a4, (out 5 (by omega)).trans a5⟩
  · rw [World.frozen?_setCell]; exact h.free o (by simpa using ho)
theorem Fresh.below {w1 W W' : World} {w : World} {g : Nat} {ys zs : List El} {k : Nat} (h : Fresh w g ys zs k w1 W) (hb : Below W.heap.size W W') : Fresh w g ys zs k w1 W' :=
  ⟨h.len, h.same, h.late, h.row.below hb, fun i hi => (h.good i hi).below hb, h.sep⟩
theorem Fresh.next {w1 W : World} {w : World} {g : Nat} {ys zs : List El} {k : Nat} (h : Fresh w g ys zs k w1 W) (hk : k < zs.length) (a : Option Addr) (cp : Nat) (hp : PathAt W a zs[k].f.path)
    (hs : ∀ b o s, a = some ⟨b, o, s⟩ → b ≠ g) :
    Fresh w g ys (zs.set k ⟨zs[k].f, a, cp⟩) (k + 1) w1 (W.setCell ⟨g, k * 6 + 5, none⟩ (.slice a zs[k].f.path.length cp)) := by
  have hkl := h.len
  refine ⟨by simpa using hkl, fun i hi hi' => ?_, fun i hi hi' hle => ?_, h.row.setPath k hk a cp, fun i hi => ?_, fun i hi => ?_⟩
  · by_cases e : k = i
    · subst e; rw [List.getElem_set_self]; exact h.same k hk hi'
    · rw [List.getElem_set_ne e]; exact h.same i (by simpa using hi) hi'
  · rw [List.getElem_set_ne (by omega)]; exact h.late i (by simpa using hi) hi' (by omega)
  · by_cases e : k = i
    · subst e; rw [List.getElem_set_self]
      exact ⟨(h.good k hk).ok, hp.setCell (fun _ => hs)⟩
    · rw [List.getElem_set_ne e]; exact (h.good i (by simpa using hi)).setCell (h.sep i (by simpa using hi))
  · by_cases e : k = i
    · subst e; rw [List.getElem_set_self]; exact fun _ => hs
    · rw [List.getElem_set_ne e]; exact h.sep i (by simpa using hi)

/-- what Sort leaves -/
def SortFd (w : World) (xs : List El) (e : Ending) (w' : World) : Prop :=
  ∃ g cap t zs, e = .returned (.slice (some ⟨g, 0, none⟩) zs.length cap) ∧ w.heap.size ≤ g ∧ t.Perm xs ∧ Srt.Sorted cmpEl t ∧ zs.map El.f = (compact t).map El.f ∧ ElsAt w' g 0 zs ∧ g < w'.heap.size ∧ (∀ x ∈ zs, GoodIn w' x) ∧ Below w.heap.size w w'

set_option maxHeartbeats 4000000 in
theorem sort_some (a : Addr) (cp : Nat) (xs : List El) (w : World) (hn : xs.length ≤ 1099511627776) (hp : ∀ x ∈ xs, x.f.path.length * 40 ≤ 140737488355328) (h : ElsIn w a xs) (hG : ∀ x ∈ xs, GoodIn w x) :
    Calls Tryd.prog 16 #[.slice (some a) xs.length cp] w (SortFd w xs) := by
  have HE := Lib.hid h
  have HG := Lib.hid hG
  have HP := Lib.hid hp
  clear h hG hp
  go_enter Tryd.func16, Tryd.ntmps16
  go_wp2_with fail
  refine (sortBy_some a cp xs w hn HE.out HG.out).mono ?_
  rintro e w2 ⟨g, cap, t, w1, rfl, hg, hcap, ht1, ht2, R, hb1⟩
  have ST : Hid (Fresh w g (compact t) (compact t) 0 w1 w2) := ⟨rfl, fun _ _ _ => rfl, fun _ _ _ _ => rfl, R, fun i hi => by
      have hm : (compact t)[i] ∈ xs := ht1.subset (compact_sub _ (List.getElem_mem hi))
      have hgg := (HG.out _ hm)
      exact (hgg.below (R.belowOf hb1 hg)), fun i hi hne b o s e => by
      have hm : (compact t)[i] ∈ xs := ht1.subset (compact_sub _ (List.getElem_mem hi))
      have := (HG.out _ hm).path.lt hne e
      omega⟩
  have hyl : (compact t).length ≤ xs.length := by rw [← ht1.length_eq]; exact compact_len t
  have HPP : Hid (∀ x ∈ compact t, x.f.path.length * 40 ≤ 140737488355328) := fun x hx => HP.out x (ht1.subset (compact_sub _ hx))
  have HT := Lib.hid (And.intro ht1 ht2)
  have HB1 := Lib.hid hb1
  clear R ht1 ht2 hb1
  have HY : Hid (∃ ys, ys = compact t) := ⟨_, rfl⟩
  generalize hys : compact t = ys at *
  have HYS := Lib.hid hys
  clear hys HY
  go_wp2_with fail
  go_loopw [9] (fun i wr => ∃ k : Nat, k ≤ ys.length ∧ i = .int .i64 k ∧ Hid (∃ zs, Fresh w g ys zs k w1 wr)) (fun i _ => ys.length - (intOf i).toNat)
  case atStart => exact ⟨0, Nat.zero_le _, rfl, ⟨_, ST.out⟩⟩
  case round =>
    clear ST
    obtain ⟨k, hk, rfl, HF⟩ := hrel
    by_cases hlt : k < ys.length
    · obtain ⟨zs, I⟩ := HF.out
      have hkz : k < zs.length := by rw [I.len]; exact hlt
      have e0 : zs[k] = ys[k] := I.late k hkz hlt (Nat.le_refl _)
      obtain ⟨a0, a1, a2, a3, a4, a5⟩ := I.row.six k hkz
      have gk := I.good k hkz
      have hpl : zs[k].f.path.length * 40 ≤ 140737488355328 := by rw [e0]; exact HPP.out _ (List.getElem_mem hlt)
      have hgl : g < wr.heap.size := Nat.lt_of_lt_of_le I.row.blt I.row.size
      have hfr := I.row.free (k * 6 + 5) (by omega)
      have II := Lib.hid I
      have GK := Lib.hid gk
      clear I gk e0 HF a0 a1 a2 a3 a4
      have hx : (zs[k]).f.path.length = (zs[k]).f.path.length := rfl
      clear hx
      go_wp2_with fail
      refine (clonePl_any zs[k].a zs[k].cp zs[k].f.path _ hpl GK.out.path).mono ?_
      rintro e w3 ⟨a', cp', rfl, hp3, hb3, hn3, ha3⟩
      have c5 : w3.cell? ⟨g, k * 6 + 5, none⟩ = some (.slice zs[k].a zs[k].f.path.length zs[k].cp) := by rw [hb3.cell (p := ⟨g, _, none⟩) hgl]; exact a5
      have f5 : w3.frozen? ⟨g, k * 6 + 5, none⟩ = false := by rw [hb3.frozen (p := ⟨g, _, none⟩) hgl]; exact hfr
      have HN : Hid (∃ zs', Fresh w g ys zs' (k + 1) w1 (w3.setCell ⟨g, k * 6 + 5, none⟩ (.slice a' zs[k].f.path.length cp'))) := ⟨_, (II.out.below hb3).next hkz a' cp' hp3 (fun b o s e => by have := hn3 b o s e; omega)⟩
      clear hp3 hb3 hn3 ha3 a5 hfr II GK hpl
      go_wp2_with fail
      generalize w3.setCell ⟨g, k * 6 + 5, none⟩ (.slice a' zs[k].f.path.length cp') = w4 at *
      clear c5 f5
      go_roundw
      case rel => exact ⟨k + 1, by omega, by go_num, HN⟩
      case measure => simp [intOf]; omega
    · obtain ⟨zs, I⟩ := HF.out
      have hl := I.len
      have HFF : Hid (SortFd w xs (.returned (.slice (some ⟨g, 0, none⟩) ys.length cap)) wr) := by
        refine ⟨g, cap, t, zs, by rw [hl], hg, HT.out.1, HT.out.2, ?_, fun i hi => by rw [Nat.zero_add]; exact I.row.six i hi, Nat.lt_of_lt_of_le I.row.blt I.row.size, fun x hx => ?_, I.row.belowOf HB1.out hg⟩
        · rw [HYS.out]
          apply List.ext_getElem (by simpa using hl)
          intro i h1 h2
          simp only [List.getElem_map]
          exact I.same i (by simpa using h1) (by simpa using h2)
        · obtain ⟨i, hi, rfl⟩ := List.mem_iff_getElem.1 hx
          exact I.good i hi
      clear I hl HF
      go_wp2_with fail
      go_ret
      exact HFF.out
set_option maxHeartbeats 4000000 in
theorem sort_nil (cp : Nat) (w : World) : Calls Tryd.prog 16 #[.slice none 0 cp] w fun e w' => e = .returned (.slice none 0 0) ∧ Below w.heap.size w w' := by
  go_enter Tryd.func16, Tryd.ntmps16
  go_wp2_with fail
  refine (sortBy_nil cp w).mono ?_
  rintro e w2 ⟨rfl, hb⟩
  have HB := Lib.hid hb
  clear hb
  go_wp2_with fail
  refine wp_loop_rounds 1 ?_
  rw [rounds_succ]
  go_wp2_with fail
  go_ret
  exact ⟨rfl, HB.out⟩
end Go.Proofs.YtffmeglcakcpdaaDoor
