/- slices.Clone of places and of findings. -/
import Derived.Test.YtffmeglcakcpdaaDoorWalkO
set_option linter.unusedVariables false
namespace Go.Proofs.YtffmeglcakcpdaaDoor
open Go.RowKit

def zeroPl : Array Value := #[.string ByteArray.empty, .string ByteArray.empty, .int .i64 0]
theorem infoPl : (Tryd.prog.info? 23).map (fun i => (i.zero, i.size, i.bytes)) = some (some (.agg zeroPl), 3, 40) := by kernel_rfl
theorem infoFd : (Tryd.prog.info? 26).map (fun i => (i.zero, i.size, i.bytes)) = some (some (.agg zeroFd), 6, 88) := by kernel_rfl

/-- the cells of a list of places -/
def flatPl (ps : List Pl) : List Value := ps.flatMap fun p => [.string p.cls, .string p.meth, .int .i64 p.ins]
theorem flatPl_length (ps : List Pl) : (flatPl ps).length = ps.length * 3 := by
  unfold flatPl; induction ps with
  | nil => rfl
  | cons p ps ih => rw [List.flatMap_cons, List.length_append, ih]; simp; omega
theorem flatPl_one (ps : List Pl) : ∀ v ∈ flatPl ps, v.oneCell' = true := by
  intro v hv
  unfold flatPl at hv
  rw [List.mem_flatMap] at hv
  obtain ⟨p, _, hv⟩ := hv
  simp only [List.mem_cons, List.not_mem_nil, or_false] at hv
  rcases hv with rfl | rfl | rfl <;> rfl
theorem flatPl_at : ∀ (ps : List Pl) (i : Nat) (h : i < ps.length), (flatPl ps)[i * 3]? = some (.string ps[i].cls) ∧ (flatPl ps)[i * 3 + 1]? = some (.string ps[i].meth) ∧ (flatPl ps)[i * 3 + 2]? = some (.int .i64 ps[i].ins)
  | p :: ps, 0, _ => ⟨rfl, rfl, rfl⟩
  | p :: ps, i + 1, h => by
    have ih := flatPl_at ps i (by simpa using h)
    have e : ∀ j, (flatPl (p :: ps))[(i + 1) * 3 + j]? = (flatPl ps)[i * 3 + j]? := fun j => by
      unfold flatPl
      rw [List.flatMap_cons, List.getElem?_append_right (by simp; omega)]
      congr 1
      simp; omega
    exact ⟨(e 0).trans ih.1, (e 1).trans ih.2.1, (e 2).trans ih.2.2⟩
theorem flatPl_cells {w : World} {b off : Nat} {ps : List Pl} (h : ∀ i (h : i < ps.length), w.cell? ⟨b, off + i * 3, none⟩ = some (.string ps[i].cls) ∧ w.cell? ⟨b, off + i * 3 + 1, none⟩ = some (.string ps[i].meth) ∧ w.cell? ⟨b, off + i * 3 + 2, none⟩ = some (.int .i64 ps[i].ins)) :
    ∀ j u, (flatPl ps)[j]? = some u → w.cell? ((⟨b, off, none⟩ : Addr).add j) = some u := by
  intro j u hj
  have hl : j < ps.length * 3 := by rw [← flatPl_length]; exact (List.getElem?_eq_some_iff.1 hj).1
  have hi : j / 3 < ps.length := by omega
  have ha : (⟨b, off, none⟩ : Addr).add j = ⟨b, off + j, none⟩ := by unfold Addr.add; split <;> simp_all
  rw [ha]
  obtain ⟨c0, c1, c2⟩ := h (j / 3) hi
  obtain ⟨d0, d1, d2⟩ := flatPl_at ps (j / 3) hi
  have hm : j % 3 = 0 ∨ j % 3 = 1 ∨ j % 3 = 2 := by omega
  rcases hm with hm | hm | hm
  · rw [show j / 3 * 3 = j by omega, hj] at d0; rw [d0, ← c0]; congr 2; omega
  · rw [show j / 3 * 3 + 1 = j by omega, hj] at d1; rw [d1, ← c1]; congr 2; omega
  · rw [show j / 3 * 3 + 2 = j by omega, hj] at d2; rw [d2, ← c2]; congr 2; omega

/-- what a clone of places leaves -/
def ClonedPl (w : World) (ps : List Pl) (e : Ending) (w' : World) : Prop :=
  ∃ a cp, e = .returned (.slice a ps.length cp) ∧ PathAt w' a ps ∧ Below w.heap.size w w' ∧ (∀ b o s, a = some ⟨b, o, s⟩ → w.heap.size ≤ b) ∧ (a = none ∨ ∃ b off, a = some ⟨b, off, none⟩ ∧ b < w'.heap.size)

theorem clonedPl_of {w w1 w2 : World} {ps : List Pl} {v : Value} (hb : Below w.heap.size w w1) (hw : w.heap.size ≤ w1.heap.size) (ho : w2.ownsRow w.heap.size 23 3 v ps.length (flatPl ps)) (hb2 : Below w.heap.size w w2) (hv : v ≠ .slice none 0 0) : ClonedPl w ps (.returned v) w2 := by
  obtain ⟨h1, h2 | ⟨g, cap, cur, hv2, hg, hh, hc1, hc2, hc3, hc4⟩⟩ := ho
  · exact absurd h2.1 hv
  · have hlt : g < w2.heap.size := (Array.getElem?_eq_some_iff.1 hh).1
    refine ⟨some ⟨g, 0, none⟩, cap, by rw [hv2], ?_, hb2, (fun b o s e => by cases e; exact hg), Or.inr ⟨g, 0, rfl, hlt⟩⟩
    refine Or.inr ⟨g, 0, rfl, hlt, fun i hi => ?_⟩
    obtain ⟨d0, d1, d2⟩ := flatPl_at ps i hi
    have hcell : ∀ j, j < ps.length * 3 → w2.cell? ⟨g, 0 + j, none⟩ = (flatPl ps)[j]? := fun j hj => by
      rw [Nat.zero_add]
      unfold World.cell?
      simp only [hh, Option.isSome_none, Bool.false_eq_true, if_false]
      rw [← hc4, List.getElem?_take_of_lt (by omega), Array.getElem?_toList]
    refine ⟨?_, ?_, ?_⟩
    · rw [hcell _ (by omega)]; exact d0
    · rw [show 0 + i * 3 + 1 = 0 + (i * 3 + 1) by omega, hcell _ (by omega)]; exact d1
    · rw [show 0 + i * 3 + 2 = 0 + (i * 3 + 2) by omega, hcell _ (by omega)]; exact d2

theorem eqNilPl (w : World) (a : Option Addr) (n c : Nat) : (binOp .eql 24 (.slice a n c) (.slice none 0 0)).run Tryd.prog w = .ok (.bool a.isNone) w := Lib.run_eql_slice_nil (P := Tryd.prog) w 24 23 a n c 0 0 Tryd.underlying24
theorem eqNilFd (w : World) (a : Option Addr) (n c : Nat) : (binOp .eql 33 (.slice a n c) (.slice none 0 0)).run Tryd.prog w = .ok (.bool a.isNone) w := Lib.run_eql_slice_nil (P := Tryd.prog) w 33 26 a n c 0 0 Tryd.underlying33
theorem owns_empty (w : World) (t : TypeId) (size : Nat) : (w.alloc (.cells #[] t)).ownsRow w.heap.size t size (.slice (some ⟨w.heap.size, 0, none⟩) 0 0) 0 [] :=
  ⟨by simp, Or.inr ⟨w.heap.size, 0, #[], rfl, Nat.le_refl _, by show (w.heap.push _)[w.heap.size]? = _; simp, Nat.le_refl _, by unfold maxLen; omega, by simp, by simp⟩⟩

set_option maxHeartbeats 2000000 in
theorem clonePl_nil (cp : Nat) (w : World) :
    Calls Tryd.prog 33 #[.slice none 0 cp] w (ClonedPl w []) := by
  have hn := eqNilPl
  go_enter Tryd.func33, Tryd.ntmps33
  go_wp2_with fail
  go_ret
  exact ⟨none, 0, rfl, Or.inl rfl, Below.refl _ _, (fun b o s e => by cases e), Or.inl rfl⟩

set_option maxHeartbeats 2000000 in
theorem clonePl_some (a : Addr) (cp : Nat) (ps : List Pl) (w : World) (hm : ps.length * 40 ≤ 140737488355328) (h : ∀ j u, (flatPl ps)[j]? = some u → (w.alloc (.cells #[] 23)).cell? (a.add j) = some u) :
    Calls Tryd.prog 33 #[.slice (some a) ps.length cp] w (ClonedPl w ps) := by
  have hn := eqNilPl
  obtain ⟨i0, hi, hz0, hz1, hz2⟩ := info_parts infoPl
  have HI := Lib.hid (And.intro hi (And.intro hz0 (And.intro hz1 hz2)))
  have HO := Lib.hid (owns_empty w 23 3)
  have HC := Lib.hid h
  have HB : Hid (Below w.heap.size w (w.alloc (.cells #[] 23))) := by unfold Hid; go_grown
  clear h hi hz0 hz1 hz2
  go_enter Tryd.func33, Tryd.ntmps33
  go_wp2_with (at_builtin; refine wpList_append_own _ rfl (.tmp 5) (.tmp 6) 24 rfl w.heap.size 23 i0 (.agg zeroPl) 3 40 Tryd.underlying24 HI.out.1 HI.out.2.1 HI.out.2.2.1 HI.out.2.2.2 rfl (by decide) (.slice (some ⟨w.heap.size, 0, none⟩) 0 0) 0 [] rfl HO.out a ps.length cp (flatPl ps) rfl (flatPl_length ps) HC.out (flatPl_one ps) (by unfold maxLen; omega) (by omega) HB.out.size ?_)
  intro v' w1 hown hgrow hnil
  have hb1 : Below w.heap.size w w1 := HB.out.grown hgrow HB.out.size (fun k hk => by
    simp only [Value.ownBlock, Option.some.injEq] at hk; omega)
  have HF : Hid (ClonedPl w ps (.returned v') w1) := clonedPl_of HB.out HB.out.size hown hb1 hnil
  clear hown hgrow hnil hb1
  go_wp2_with fail
  go_ret
  exact HF.out

theorem clonePl_any (a : Option Addr) (cp : Nat) (ps : List Pl) (w : World) (hm : ps.length * 40 ≤ 140737488355328) (hp : PathAt w a ps) :
    Calls Tryd.prog 33 #[.slice a ps.length cp] w (ClonedPl w ps) := by
  rcases hp with rfl | ⟨b, off, rfl, h2, h3⟩
  · cases a with
    | none => exact clonePl_nil cp w
    | some a => exact clonePl_some a cp [] w (by simp) (fun j u hj => by cases hj)
  · refine clonePl_some ⟨b, off, none⟩ cp ps w hm (fun j u hj => ?_)
    have := flatPl_cells h3 j u hj
    have ha : (⟨b, off, none⟩ : Addr).add j = ⟨b, off + j, none⟩ := by unfold Addr.add; split <;> simp_all
    rw [ha] at this ⊢
    rw [World.cell?_alloc_past _ _ _ h2]
    exact this
/-! findings -/
def flatFd (xs : List El) : List Value := xs.flatMap El.cells
theorem flatFd_length (xs : List El) : (flatFd xs).length = xs.length * 6 := by
  unfold flatFd; induction xs with
  | nil => rfl
  | cons p ps ih => rw [List.flatMap_cons, List.length_append, ih]; simp; omega
theorem flatFd_one (xs : List El) : ∀ v ∈ flatFd xs, v.oneCell' = true := by
  intro v hv
  unfold flatFd at hv
  rw [List.mem_flatMap] at hv
  obtain ⟨p, _, hv⟩ := hv
  simp only [List.mem_cons, List.not_mem_nil, or_false] at hv
  rcases hv with rfl | rfl | rfl | rfl | rfl | rfl <;> rfl
theorem flatFd_at : ∀ (xs : List El) (i : Nat) (h : i < xs.length) (j : Nat), j < 6 → (flatFd xs)[i * 6 + j]? = (xs[i]).cells[j]?
  | p :: ps, 0, _, j, hj => by
    unfold flatFd
    rw [List.flatMap_cons, List.getElem?_append_left (by simp; omega)]
    simp
  | p :: ps, i + 1, h, j, hj => by
    have ih := flatFd_at ps i (by simpa using h) j hj
    unfold flatFd at *
    rw [List.flatMap_cons, List.getElem?_append_right (by simp; omega)]
    rw [show (i + 1) * 6 + j - p.cells.length = i * 6 + j by simp; omega, ih]
    simp
/-- the findings of a slice lie in memory -/
def ElsAt (w : World) (b off : Nat) (xs : List El) : Prop := ∀ i (h : i < xs.length), Six w b (off + i * 6) xs[i]
theorem Six.get {W : World} {blk o : Nat} {x : El} (h : Six W blk o x) : ∀ j, j < 6 → W.cell? ⟨blk, o + j, none⟩ = x.cells[j]?
  | 0, _ => h.c0
  | 1, _ => h.c1
  | 2, _ => h.c2
  | 3, _ => h.c3
  | 4, _ => h.c4
  | 5, _ => h.c5
  | n + 6, hn => by omega
theorem flatFd_cells {w : World} {b off : Nat} {xs : List El} (h : ElsAt w b off xs) : ∀ j u, (flatFd xs)[j]? = some u → w.cell? ((⟨b, off, none⟩ : Addr).add j) = some u := by
  intro j u hj
  have hl : j < xs.length * 6 := by rw [← flatFd_length]; exact (List.getElem?_eq_some_iff.1 hj).1
  have hi : j / 6 < xs.length := by omega
  have ha : (⟨b, off, none⟩ : Addr).add j = ⟨b, off + j, none⟩ := by unfold Addr.add; split <;> simp_all
  rw [ha, ← hj]
  have h1 := (h (j / 6) hi).get (j % 6) (by omega)
  have h2 := flatFd_at xs (j / 6) hi (j % 6) (by omega)
  rw [show j / 6 * 6 + j % 6 = j by omega] at h2
  rw [show off + j / 6 * 6 + j % 6 = off + j by omega] at h1
  rw [h1, h2]

/-- the findings of a slice that is not nil -/
def ElsIn (w : World) (a : Addr) (xs : List El) : Prop := xs = [] ∨ ∃ b off, a = ⟨b, off, none⟩ ∧ b < w.heap.size ∧ ElsAt w b off xs
theorem Six.below {w w' : World} {b o : Nat} {x : El} (h : Six w b o x) (hlt : b < w.heap.size) (hb : Below w.heap.size w w') : Six w' b o x := by
  obtain ⟨a0, a1, a2, a3, a4, a5⟩ := h
  exact ⟨by rw [hb.cell (p := ⟨b, _, none⟩) hlt]; exact a0, by rw [hb.cell (p := ⟨b, _, none⟩) hlt]; exact a1, by rw [hb.cell (p := ⟨b, _, none⟩) hlt]; exact a2,
    by rw [hb.cell (p := ⟨b, _, none⟩) hlt]; exact a3, by rw [hb.cell (p := ⟨b, _, none⟩) hlt]; exact a4, by rw [hb.cell (p := ⟨b, _, none⟩) hlt]; exact a5⟩
theorem ElsIn.below {w w' : World} {a : Addr} {xs : List El} (h : ElsIn w a xs) (hb : Below w.heap.size w w') : ElsIn w' a xs :=
  h.imp id fun ⟨b, off, e, hlt, he⟩ => ⟨b, off, e, Nat.lt_of_lt_of_le hlt hb.size, fun i hi => (he i hi).below hlt hb⟩
/-- what a clone of findings leaves: a row of its own -/
def ClonedFd (w : World) (xs : List El) (e : Ending) (w' : World) : Prop :=
  ∃ g cap, e = .returned (.slice (some ⟨g, 0, none⟩) xs.length cap) ∧ w.heap.size ≤ g ∧ xs.length ≤ cap ∧ Row w' g xs w' ∧ Below w.heap.size w w'
theorem clonedFd_of {w w2 : World} {xs : List El} {v : Value} (ho : w2.ownsRow w.heap.size 26 6 v xs.length (flatFd xs)) (hb2 : Below w.heap.size w w2) (hv : v ≠ .slice none 0 0) : ClonedFd w xs (.returned v) w2 := by
  obtain ⟨h1, h2 | ⟨g, cap, cur, hv2, hg, hh, hc1, hc2, hc3, hc4⟩⟩ := ho
  · exact absurd h2.1 hv
  · have hlt : g < w2.heap.size := (Array.getElem?_eq_some_iff.1 hh).1
    have hcell : ∀ j, j < xs.length * 6 → w2.cell? ⟨g, j, none⟩ = (flatFd xs)[j]? := fun j hj => by
      unfold World.cell?
      simp only [hh, Option.isSome_none, Bool.false_eq_true, if_false]
      rw [← hc4, List.getElem?_take_of_lt (by omega), Array.getElem?_toList]
    refine ⟨g, cap, by rw [hv2], hg, hc1, ⟨rfl, rfl, rfl, Nat.le_refl _, hlt, fun _ _ _ => rfl, fun i hi => ?_, fun o ho => ?_⟩, hb2⟩
    · have c : ∀ j, j < 6 → w2.cell? ⟨g, i * 6 + j, none⟩ = (xs[i]).cells[j]? := fun j hj => by
        rw [hcell _ (by omega), flatFd_at xs i hi j hj]
      exact ⟨c 0 (by omega), c 1 (by omega), c 2 (by omega), c 3 (by omega), c 4 (by omega), c 5 (by omega)⟩
    · unfold World.frozen?
      simp only [hh]
      simp

set_option maxHeartbeats 2000000 in
theorem cloneFd_nil (cp : Nat) (w : World) :
    Calls Tryd.prog 40 #[.slice none 0 cp] w fun e w' => e = .returned (.slice none 0 0) ∧ w = w' := by
  have hn := eqNilFd
  go_enter Tryd.func40, Tryd.ntmps40
  go_wp2_with fail
  go_ret
  exact ⟨rfl, rfl⟩

set_option maxHeartbeats 2000000 in
theorem cloneFd_some (a : Addr) (cp : Nat) (xs : List El) (w : World) (hm : xs.length * 88 ≤ 140737488355328) (h : ElsIn w a xs) :
    Calls Tryd.prog 40 #[.slice (some a) xs.length cp] w (ClonedFd w xs) := by
  have hn := eqNilFd
  obtain ⟨i0, hi, hz0, hz1, hz2⟩ := info_parts infoFd
  have HI := Lib.hid (And.intro hi (And.intro hz0 (And.intro hz1 hz2)))
  have HO := Lib.hid (owns_empty w 26 6)
  have HC : Hid (∀ j u, (flatFd xs)[j]? = some u → (w.alloc (.cells #[] 26)).cell? (a.add j) = some u) := fun j u hj => by
    rcases h with rfl | ⟨b, off, rfl, hb, h⟩
    · cases hj
    have := flatFd_cells h j u hj
    have ha : (⟨b, off, none⟩ : Addr).add j = ⟨b, off + j, none⟩ := by unfold Addr.add; split <;> simp_all
    rw [ha] at this ⊢
    rw [World.cell?_alloc_past _ _ _ hb]
    exact this
  have HB : Hid (Below w.heap.size w (w.alloc (.cells #[] 26))) := by unfold Hid; go_grown
  clear h hi hz0 hz1 hz2
  go_enter Tryd.func40, Tryd.ntmps40
  go_wp2_with (at_builtin; refine wpList_append_own _ rfl (.tmp 5) (.tmp 6) 33 rfl w.heap.size 26 i0 (.agg zeroFd) 6 88 Tryd.underlying33 HI.out.1 HI.out.2.1 HI.out.2.2.1 HI.out.2.2.2 rfl (by decide) (.slice (some ⟨w.heap.size, 0, none⟩) 0 0) 0 [] rfl HO.out a xs.length cp (flatFd xs) rfl (flatFd_length xs) HC.out (flatFd_one xs) (by unfold maxLen; omega) (by omega) HB.out.size ?_)
  intro v' w1 hown hgrow hnil
  have hb1 : Below w.heap.size w w1 := HB.out.grown hgrow HB.out.size (fun k hk => by
    simp only [Value.ownBlock, Option.some.injEq] at hk; omega)
  have HF : Hid (ClonedFd w xs (.returned v') w1) := clonedFd_of hown hb1 hnil
  clear hown hgrow hnil hb1
  go_wp2_with fail
  go_ret
  exact HF.out
end Go.Proofs.YtffmeglcakcpdaaDoor
