/- The example of the chapter: it returns true, whatever the world, and writes nothing old. -/
import Derived.Test.YtfoahdpnalbbgaaGreatDoorEvY
import Derived.Test.YtfoahdpnalbbgaaGreatDoorKA
import Derived.Test.YtfoahdpnalbbgaaGreatDoorKB
import Derived.Test.YtfoahdpnalbbgaaGreatDoorKC
import Derived.Test.YtfoahdpnalbbgaaGreatDoorKD
import Derived.Test.YtfoahdpnalbbgaaGreatDoorKE
import Derived.Laws.Externs
set_option linter.unusedVariables false
set_option linter.unusedSimpArgs false
namespace Go.Proofs.YtfoahdpnalbbgaaGreatDoor.Ev
open Go Go.RowKit
/-! what stands for internal/bytealg.IndexByteString -/
theorem get_bang {s : ByteArray} {k : Nat} {b : UInt8} (h : s.data.toList[k]? = some b) : s[k]! = b := by
  have h1 : s.data[k]? = some b := by simpa using h
  obtain ⟨hlt, he⟩ := Array.getElem?_eq_some_iff.1 h1
  have hlt' : k < s.size := hlt
  rw [getElem!_pos s k hlt']
  exact he
theorem idxB_find {s : ByteArray} {c : Nat} (hc : c ≤ 255) : ∀ (l : List UInt8) (i : Nat), (∀ j, l[j]? = s.data.toList[i + j]?) → idxB c (l.map UInt8.toNat) i = match (List.range' i l.length).find? (fun k => s[k]! == c.toUInt8) with | some k => (k : Int) | none => -1
  | [], i, _ => rfl
  | b :: l, i, h => by
    have h0 := h 0
    simp only [List.getElem?_cons_zero, Nat.add_zero] at h0
    have hb := get_bang h0.symm
    have ih := idxB_find hc l (i + 1) (fun j => by have := h (j + 1); simp only [List.getElem?_cons_succ] at this; rw [this]; congr 1; omega)
    simp only [List.map_cons, idxB, List.length_cons, List.range'_succ, List.find?_cons]
    have hcn : c.toUInt8.toNat = c := by simp [Nat.toUInt8, UInt8.toNat_ofNat']; omega
    cases hq : Nat.beq b.toNat c with
    | true =>
      have e := Nat.eq_of_beq_eq_true hq
      have : (s[i]! == c.toUInt8) = true := by
        rw [hb, beq_iff_eq]
        exact UInt8.toNat_inj.1 (by rw [hcn]; exact e)
      rw [this]; rfl
    | false =>
      have : (s[i]! == c.toUInt8) = false := by
        rw [hb, beq_eq_false_iff_ne]
        intro q
        rw [q, hcn] at hq
        simp at hq
      rw [this]; exact ih
theorem extOk : ExtOk Tryz.prog X0 := by
  intro f g hf args v hg β cargs w hv
  unfold X0 extOf at hf
  cases hb : Nat.beq 274 f with
  | false => rw [hb] at hf; cases hf
  | true =>
    rw [hb] at hf
    simp only [cond, Option.some.injEq] at hf
    have e := Nat.eq_of_beq_eq_true hb
    subst e hf
    unfold gIB at hg
    split at hg
    · rename_i s c
      cases hc : Nat.ble c 255 with
      | false => rw [hc] at hg; cases hg
      | true =>
        rw [hc] at hg
        simp only [cond, forceInt_eq, Option.some.injEq] at hg
        subst hg
        simp only [VRs, VR] at hv
        obtain ⟨u, us, rfl, ⟨b, rfl, rfl⟩, u2, us2, rfl, rfl, rfl⟩ := hv
        have hc' := Nat.le_of_ble_eq_true hc
        refine ⟨.int .i64 (firstIdx b c.toUInt8), ?_, ?_⟩
        · rw [run_callFunc_extern (fn := Tryz.f274) (e := Extern.BytealgIndexByte.indexByte) Tryz.func274 (by kernel_rfl) (by kernel_rfl) (by kernel_rfl) (by kernel_rfl)]
          have := run_indexByte_string (P := Tryz.prog) b (Int.ofNat c) w
          rw [show ((Value.string b :: [Value.int .u8 (Int.ofNat c)]).toArray : Array Value) = #[.string b, .int .u8 (Int.ofNat c)] from rfl, this]
          rfl
        · have := idxB_find (s := b) hc' b.data.toList 0 (by simp)
          simp only [VR]
          rw [this]
          unfold firstIdx
          rw [List.range_eq_range']
          have hl : b.data.toList.length = b.size := by simp
          rw [hl]
          cases (List.range' 0 b.size).find? (fun k => b[k]! == c.toUInt8) <;> rfl
    · cases hg
theorem mixed : Tryz.prog.follows .mixedOrders = true := by kernel_rfl
theorem noGoroutines : ∀ (f : Nat) (fn : Func), Tryz.prog.funcs[f]? = some fn → (fn.name == "runtime.NumGoroutine") = false := by
  have h : (Tryz.prog.funcs.all fun fn => !(fn.name == "runtime.NumGoroutine")) = true := by kernel_rfl
  intro f fn hf
  have := Array.all_eq_true_iff_forall_mem.1 h fn (Array.mem_of_getElem? hf)
  simpa using this
theorem ng3 : Tryz.prog.globals.size = 3 := by kernel_rfl
theorem memo0 : MemoOk Tryz.prog Tryz.prog.globals.size [m0] := memo_ok (l := lb0) mixed (opOk _ _) (Nat.le_refl _) noGoroutines extOk MemoOk.nil rfl rfl bears0
theorem memo1 : MemoOk Tryz.prog Tryz.prog.globals.size [m1, m0] := (memo_ok (l := lb1) mixed (opOk _ _) (Nat.le_refl _) noGoroutines extOk memo0 rfl rfl bears1).cons memo0
theorem memo2 : MemoOk Tryz.prog Tryz.prog.globals.size [m2, m1, m0] := (memo_ok (l := lb2) mixed (opOk _ _) (Nat.le_refl _) noGoroutines extOk memo1 rfl rfl bears2).cons memo1
theorem memo3 : MemoOk Tryz.prog Tryz.prog.globals.size [m3, m2, m1, m0] := (memo_ok (l := lb3) mixed (opOk _ _) (Nat.le_refl _) noGoroutines extOk memo2 rfl rfl bears3).cons memo2
/-- what the package-level variables hold -/
def avStr (z : List UInt8) : AV := .str (z.map UInt8.toNat)
structure Env (w : World) (fm kw : List (List UInt8)) : Prop where
  fm : ∃ t, w.heap[0]? = some (.cells (fm.map fun z => Value.string ⟨z.toArray⟩).toArray t (0, 0))
  kw : ∃ t, w.heap[2]? = some (.cells (kw.map fun z => Value.string ⟨z.toArray⟩).toArray t (0, 0))
theorem isT_some {x : Res} (h : isT x = true) : ∃ h', x = .call (.bool true) h' := by
  unfold isT at h
  split at h
  · exact ⟨_, rfl⟩
  · cases h
theorem strs_VRs {β : Bet} : ∀ (l : List (List UInt8)), VRs β (l.map avStr) (l.map fun z => Value.string ⟨z.toArray⟩)
  | [] => by simp [VRs]
  | z :: l => by
    simp only [List.map_cons, VRs]
    exact ⟨_, _, rfl, by simp [avStr, VR], strs_VRs l⟩
theorem wf_top {fm kw : List (List UInt8)} (hf : hStart = [(0, AB.cells (fm.map avStr)), (2, AB.cells (kw.map avStr))]) : WF hTop := by
  refine ⟨fun id hid => ?_, by show (3 : Nat) ≤ _; omega⟩
  have hid' : 3 ≤ id := hid
  show Tr.get (mkT hStart) id = none
  rw [hf]
  show Tr.get (Tr.set depth (Tr.set depth Tr.nil 2 (AB.cells (kw.map avStr))) 0 (AB.cells (fm.map avStr))) id = none
  rw [Tr.get_set depth _ _ _ _ (by omega), if_neg (by omega), Tr.get_set depth _ _ _ _ (by omega), if_neg (by omega), Tr.get_nil]
theorem knows_any (fm kw : List (List UInt8)) (hf : hStart = [(0, .cells (fm.map avStr)), (2, .cells (kw.map avStr))]) (w : World) (hE : Env w fm kw) (hs : 3 ≤ w.heap.size) :
    Calls Tryz.prog 6 #[] w fun e w' => e = .returned (.bool true) ∧ Below w.heap.size w w' := by
  obtain ⟨t1, e1⟩ := hE.fm
  obtain ⟨t2, e2⟩ := hE.kw
  have hk : ∃ h', ev (cC Tryz.prog) (tblX Tryz.prog X0) [m3, m2, m1, m0] 1000000 (top hTop.n) (.call (.fnB 6) []) hTop = .call (.bool true) h' := by
    exact isT_some knows_true
  obtain ⟨h', hk⟩ := hk
  let sz : Nat → Nat := fun g => match w.heap[g]? with | some (.cells cur _ _) => cur.size | _ => 0
  let β : Bet := fun g => if g < 3 then some ⟨g, 0, sz g⟩ else none
  have hβ : ∀ g, g < 3 → β g = some ⟨g, 0, sz g⟩ := fun g hg => by simp [β, hg]
  have hview : ∀ id b, view (top hTop.n) hTop id = some b → (id = 0 ∧ b = .cells (fm.map avStr)) ∨ (id = 2 ∧ b = .cells (kw.map avStr)) := fun id b q => by
    have q1 := (getB_view q).1
    have q2 : Tr.get (mkT hStart) id = some b := q1
    rw [hf] at q2
    have q3 : Tr.get (Tr.set depth (Tr.set depth Tr.nil 2 (.cells (kw.map avStr))) 0 (.cells (fm.map avStr))) id = some b := q2
    rw [Tr.get_set depth _ _ _ _ (by omega)] at q3
    by_cases x : 0 = id
    · rw [if_pos x] at q3; cases q3; exact Or.inl ⟨x.symm, rfl⟩
    · rw [if_neg x, Tr.get_set depth _ _ _ _ (by omega)] at q3
      by_cases y : 2 = id
      · rw [if_pos y] at q3; cases q3; exact Or.inr ⟨y.symm, rfl⟩
      · rw [if_neg y, Tr.get_nil] at q3; cases q3
  have br : ∀ (g : Nat) (l : List (List UInt8)) (t : TypeId), w.heap[g]? = some (.cells (l.map fun z => Value.string ⟨z.toArray⟩).toArray t (0, 0)) → BR β ⟨g, 0, sz g⟩ w (.cells (l.map avStr)) := fun g l t hg => by
    refine ⟨_, t, hg, ?_, fun i v hi => ?_⟩
    · simp [sz, hg]
    · obtain ⟨u, q1, q2⟩ := (strs_VRs (β := β) l).get hi
      exact ⟨u, by simpa using q1, q2⟩
  have hr : HR β (view (top hTop.n) hTop) w := by
    refine ⟨fun id b q => ?_, fun i j b d L M q1 q2 q3 q4 q5 => ?_⟩
    · rcases hview id b q with ⟨rfl, rfl⟩ | ⟨rfl, rfl⟩
      · exact ⟨_, hβ _ (by omega), (by show (0 : Nat) < w.heap.size; omega), br _ fm t1 e1⟩
      · exact ⟨_, hβ _ (by omega), (by show (2 : Nat) < w.heap.size; omega), br _ kw t2 e2⟩
    · have li : i < 3 := by rcases hview i b q1 with ⟨rfl, _⟩ | ⟨rfl, _⟩ <;> omega
      have lj : j < 3 := by rcases hview j d q2 with ⟨rfl, _⟩ | ⟨rfl, _⟩ <;> omega
      rw [hβ i li] at q3; rw [hβ j lj] at q4
      cases q3; cases q4; exact q5
  have hgb : GB Tryz.prog.globals.size β := fun g hg => ⟨sz g, hβ g (by rw [ng3] at hg; exact hg)⟩
  refine (ev_top (cargs := []) mixed noGoroutines extOk memo3 hk (wf_top hf) hgb hr (fun id hid => ?_) (by simp [VRs])).mono fun e w' ⟨β', val, h1, h2, _, h4⟩ => ?_
  · have hid' : 3 ≤ id := hid
    simp [β]; omega
  · simp only [VR] at h2
    subst h2
    exact ⟨h1, h4⟩
end Go.Proofs.YtfoahdpnalbbgaaGreatDoor.Ev
