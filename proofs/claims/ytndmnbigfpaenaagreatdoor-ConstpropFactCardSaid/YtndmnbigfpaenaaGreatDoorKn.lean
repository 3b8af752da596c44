/- The example of the chapter: it returns true, whatever the world, and writes nothing old. -/
import Derived.Test.YtndmnbigfpaenaaGreatDoorEvY
import Derived.Test.YtndmnbigfpaenaaGreatDoorK0
import Derived.Test.YtndmnbigfpaenaaGreatDoorK1
import Derived.Test.YtndmnbigfpaenaaGreatDoorK2
import Derived.Test.YtndmnbigfpaenaaGreatDoorK3
import Derived.Test.YtndmnbigfpaenaaGreatDoorK4
import Derived.Test.YtndmnbigfpaenaaGreatDoorK5
import Derived.Test.YtndmnbigfpaenaaGreatDoorK6
import Derived.Test.YtndmnbigfpaenaaGreatDoorK7
import Derived.Test.YtndmnbigfpaenaaGreatDoorK8
import Derived.Test.YtndmnbigfpaenaaGreatDoorK9
import Derived.Test.YtndmnbigfpaenaaGreatDoorK10
import Derived.Test.YtndmnbigfpaenaaGreatDoorK11
import Derived.Test.YtndmnbigfpaenaaGreatDoorKE
import Derived.Laws.Externs
set_option linter.unusedVariables false
set_option linter.unusedSimpArgs false
namespace Go.Proofs.YtndmnbigfpaenaaGreatDoor.Ev
open Go Go.RowKit
/-! what stands for internal/bytealg.IndexByteString -/
theorem get_bang {s : ByteArray} {k : Nat} {b : UInt8} (h : s.data.toList[k]? = some b) : s[k]! = b := by
  have h1 : s.data[k]? = some b := by simpa using h
  obtain ⟨hlt, he⟩ := Array.getElem?_eq_some_iff.1 h1
  have hlt' : k < s.size := hlt
  rw [getElem!_pos s k hlt']
  exact he
theorem idxB_find {s : ByteArray} {c : Nat} (hc : c ≤ 255) : ∀ (l : List UInt8) (i : Nat), (∀ j, l[j]? = s.data.toList[i + j]?) → idxB c (l.map UInt8.toNat) i = match (List.range' i l.length).find? (fun k => s[k]! == c.toUInt8) with | some k => (k : Int) | none => -1
  | [], i, _ => rfl
  | b :: l, i, h => by
    have h0 := h 0
    simp only [List.getElem?_cons_zero, Nat.add_zero] at h0
    have hb := get_bang h0.symm
    have ih := idxB_find hc l (i + 1) (fun j => by have := h (j + 1); simp only [List.getElem?_cons_succ] at this; rw [this]; congr 1; omega)
    simp only [List.map_cons, idxB, List.length_cons, List.range'_succ, List.find?_cons]
    have hcn : c.toUInt8.toNat = c := by simp [Nat.toUInt8, UInt8.toNat_ofNat']; omega
    cases hq : Nat.beq b.toNat c with
    | true =>
      have e := Nat.eq_of_beq_eq_true hq
      have : (s[i]! == c.toUInt8) = true := by
        rw [hb, beq_iff_eq]
        exact UInt8.toNat_inj.1 (by rw [hcn]; exact e)
      rw [this]; rfl
    | false =>
      have : (s[i]! == c.toUInt8) = false := by
        rw [hb, beq_eq_false_iff_ne]
        intro q
        rw [q, hcn] at hq
        simp at hq
      rw [this]; exact ih
theorem extOk : ExtOk Tryz.prog X0 := by
  intro f g hf args v hg β cargs w hv
  unfold X0 extOf at hf
  cases hb : Nat.beq 400 f with
  | false => rw [hb] at hf; cases hf
  | true =>
    rw [hb] at hf
    simp only [cond, Option.some.injEq] at hf
    have e := Nat.eq_of_beq_eq_true hb
    subst e hf
    unfold gIB at hg
    split at hg
    · rename_i s c
      cases hc : Nat.ble c 255 with
      | false => rw [hc] at hg; cases hg
      | true =>
        rw [hc] at hg
        simp only [cond, forceInt_eq, Option.some.injEq] at hg
        subst hg
        simp only [VRs, VR] at hv
        obtain ⟨u, us, rfl, ⟨b, rfl, rfl⟩, u2, us2, rfl, rfl, rfl⟩ := hv
        have hc' := Nat.le_of_ble_eq_true hc
        refine ⟨.int .i64 (firstIdx b c.toUInt8), ?_, ?_⟩
        · rw [run_callFunc_extern (fn := Tryz.f400) (e := Extern.BytealgIndexByte.indexByte) Tryz.func400 (by kernel_rfl) (by kernel_rfl) (by kernel_rfl) (by kernel_rfl)]
          have := run_indexByte_string (P := Tryz.prog) b (Int.ofNat c) w
          rw [show ((Value.string b :: [Value.int .u8 (Int.ofNat c)]).toArray : Array Value) = #[.string b, .int .u8 (Int.ofNat c)] from rfl, this]
          rfl
        · have := idxB_find (s := b) hc' b.data.toList 0 (by simp)
          simp only [VR]
          rw [this]
          unfold firstIdx
          rw [List.range_eq_range']
          have hl : b.data.toList.length = b.size := by simp
          rw [hl]
          cases (List.range' 0 b.size).find? (fun k => b[k]! == c.toUInt8) <;> rfl
    · cases hg
theorem mixed : Tryz.prog.follows .mixedOrders = true := by kernel_rfl
theorem noGoroutines : ∀ (f : Nat) (fn : Func), Tryz.prog.funcs[f]? = some fn → (fn.name == "runtime.NumGoroutine") = false := by
  have h : (Tryz.prog.funcs.all fun fn => !(fn.name == "runtime.NumGoroutine")) = true := by kernel_rfl
  intro f fn hf
  have := Array.all_eq_true_iff_forall_mem.1 h fn (Array.mem_of_getElem? hf)
  simpa using this
theorem memo0 : MemoOk Tryz.prog Tryz.prog.globals.size (memoF [m0]) := memo_ok (l := lb0) mixed (opOk _ _) (Nat.le_refl _) noGoroutines extOk MemoOk.nil (by kernel_rfl) rfl bears0
theorem memo1 : MemoOk Tryz.prog Tryz.prog.globals.size (memoF [m1, m0]) := (memo_ok (l := lb1) mixed (opOk _ _) (Nat.le_refl _) noGoroutines extOk memo0 (by kernel_rfl) rfl bears1).cons memo0
theorem memo2 : MemoOk Tryz.prog Tryz.prog.globals.size (memoF [m2, m1, m0]) := (memo_ok (l := lb2) mixed (opOk _ _) (Nat.le_refl _) noGoroutines extOk memo1 (by kernel_rfl) rfl bears2).cons memo1
theorem memo3 : MemoOk Tryz.prog Tryz.prog.globals.size (memoF [m3, m2, m1, m0]) := (memo_ok (l := lb3) mixed (opOk _ _) (Nat.le_refl _) noGoroutines extOk memo2 (by kernel_rfl) rfl bears3).cons memo2
theorem memo4 : MemoOk Tryz.prog Tryz.prog.globals.size (memoF [m4, m3, m2, m1, m0]) := (memo_ok (l := lb4) mixed (opOk _ _) (Nat.le_refl _) noGoroutines extOk memo3 (by kernel_rfl) rfl bears4).cons memo3
theorem memo5 : MemoOk Tryz.prog Tryz.prog.globals.size (memoF [m5, m4, m3, m2, m1, m0]) := (memo_ok (l := lb5) mixed (opOk _ _) (Nat.le_refl _) noGoroutines extOk memo4 (by kernel_rfl) rfl bears5).cons memo4
theorem memo6 : MemoOk Tryz.prog Tryz.prog.globals.size (memoF [m6, m5, m4, m3, m2, m1, m0]) := (memo_ok (l := lb6) mixed (opOk _ _) (Nat.le_refl _) noGoroutines extOk memo5 (by kernel_rfl) rfl bears6).cons memo5
theorem memo7 : MemoOk Tryz.prog Tryz.prog.globals.size (memoF [m7, m6, m5, m4, m3, m2, m1, m0]) := (memo_ok (l := lb7) mixed (opOk _ _) (Nat.le_refl _) noGoroutines extOk memo6 (by kernel_rfl) rfl bears7).cons memo6
theorem memo8 : MemoOk Tryz.prog Tryz.prog.globals.size (memoF [m8, m7, m6, m5, m4, m3, m2, m1, m0]) := (memo_ok (l := lb8) mixed (opOk _ _) (Nat.le_refl _) noGoroutines extOk memo7 (by kernel_rfl) rfl bears8).cons memo7
theorem memo9 : MemoOk Tryz.prog Tryz.prog.globals.size (memoF [m9, m8, m7, m6, m5, m4, m3, m2, m1, m0]) := (memo_ok (l := lb9) mixed (opOk _ _) (Nat.le_refl _) noGoroutines extOk memo8 (by kernel_rfl) rfl bears9).cons memo8
theorem memo10 : MemoOk Tryz.prog Tryz.prog.globals.size (memoF [m10, m9, m8, m7, m6, m5, m4, m3, m2, m1, m0]) := (memo_ok (l := lb10) mixed (opOk _ _) (Nat.le_refl _) noGoroutines extOk memo9 (by kernel_rfl) rfl bears10).cons memo9
theorem memo11 : MemoOk Tryz.prog Tryz.prog.globals.size (memoF [m11, m10, m9, m8, m7, m6, m5, m4, m3, m2, m1, m0]) := (memo_ok (l := lb11) mixed (opOk _ _) (Nat.le_refl _) noGoroutines extOk memo10 (by kernel_rfl) rfl bears11).cons memo10
/-- what the package-level variables hold -/
def G0 : List (Nat × List Value) := [(0, [.int .i64 2, .int .i64 0, .int .i64 0]),
  (1, [.string ⟨#[]⟩, .string ⟨#[100, 110]⟩, .string ⟨#[100]⟩, .string ⟨#[100, 97]⟩, .string ⟨#[100, 97, 111, 98]⟩, .string ⟨#[100]⟩, .string ⟨#[100, 99]⟩, .string ⟨#[100, 97, 109]⟩, .string ⟨#[97, 109, 98]⟩, .string ⟨#[100, 97, 99, 109, 42]⟩, .string ⟨#[100, 99, 109, 42]⟩, .string ⟨#[97, 103]⟩, .string ⟨#[103]⟩, .string ⟨#[97]⟩, .string ⟨#[97]⟩, .string ⟨#[100, 99]⟩, .string ⟨#[100, 97, 110]⟩]),
  (2, [.string ⟨#[99, 108, 97, 115, 115]⟩, .string ⟨#[101, 120, 116, 101, 110, 100, 115]⟩, .string ⟨#[118, 97, 114]⟩, .string ⟨#[100, 101, 102]⟩, .string ⟨#[115, 116, 97, 116, 105, 99]⟩, .string ⟨#[105, 102]⟩, .string ⟨#[101, 108, 115, 101]⟩, .string ⟨#[119, 104, 105, 108, 101]⟩, .string ⟨#[116, 114, 121]⟩, .string ⟨#[99, 97, 116, 99, 104]⟩, .string ⟨#[116, 104, 114, 111, 119]⟩, .string ⟨#[114, 101, 116, 117, 114, 110]⟩, .string ⟨#[110, 101, 119]⟩, .string ⟨#[110, 117, 108, 108]⟩, .string ⟨#[116, 104, 105, 115]⟩, .string ⟨#[105, 110, 112, 117, 116]⟩, .string ⟨#[105, 110, 116]⟩])]
structure Env (w : World) : Prop where
  at_ : ∀ p ∈ G0, ∃ t, w.heap[p.1]? = some (.cells p.2.toArray t (0, 0))
theorem isT_some {x : Res} (h : isT x = true) : ∃ h', x = .call (.bool true) h' := by
  unfold isT at h
  split at h
  · exact ⟨_, rfl⟩
  · cases h
theorem mkT_mem : ∀ (l : List (Nat × AB)), (∀ p ∈ l, p.1 < 10000000) → ∀ id b, Tr.get (mkT l) id = some b → (id, b) ∈ l
  | [], _, id, b, e => by
    have : Tr.get (Tr.nil : Tr AB) id = some b := e
    rw [Tr.get_nil] at this; cases this
  | p :: ps, hl, id, b, e => by
    have e' : Tr.get (Tr.set depth (mkT ps) p.1 p.2) id = some b := e
    rw [get_set40 _ _ _ _ (hl p (by simp))] at e'
    by_cases x : p.1 = id
    · rw [if_pos x] at e'; cases e'; subst x; simp
    · rw [if_neg x] at e'
      exact List.mem_cons_of_mem _ (mkT_mem ps (fun q hq => hl q (by simp [hq])) id b e')
def cG (p : Nat × List Value) : Option (Nat × AB) := (p.2.mapM cCell).map fun a => (p.1, AB.cells a)
theorem cG_mem : ∀ (G : List (Nat × List Value)) (l : List (Nat × AB)), G.mapM cG = some l → ∀ q ∈ l, ∃ p ∈ G, cG p = some q
  | [], l, e, q, hq => by simp at e; subst e; cases hq
  | p :: G, l, e, q, hq => by
    simp only [List.mapM_cons, Option.bind_eq_bind, Option.bind_eq_some_iff, Option.pure_def, Option.some.injEq] at e
    obtain ⟨x, h1, xs, h2, rfl⟩ := e
    rcases List.mem_cons.1 hq with rfl | hq
    · exact ⟨p, by simp, h1⟩
    · obtain ⟨p', h3, h4⟩ := cG_mem G xs h2 q hq
      exact ⟨p', by simp [h3], h4⟩
theorem start_ok : G0.mapM cG = some hStart := by kernel_rfl
theorem start_lt : ∀ p ∈ hStart, p.1 < Tryz.prog.globals.size := by
  have h : (hStart.all fun p => Nat.blt p.1 Tryz.prog.globals.size) = true := by kernel_rfl
  intro p hp
  have := List.all_eq_true.1 h p hp
  simpa [Nat.blt_eq] using this
theorem top_n : hTop.n = Tryz.prog.globals.size := by kernel_rfl
theorem few : Tryz.prog.globals.size < 10000000 := by
  have h : Nat.blt Tryz.prog.globals.size 10000000 = true := by kernel_rfl
  exact Eq.mp Nat.blt_eq h
theorem wf_top : WF hTop := by
  refine ⟨fun id hid => ?_, by rw [top_n]; exact Nat.le_of_lt few⟩
  cases hq : Tr.get hTop.t id with
  | none => rfl
  | some b =>
    have h1 := mkT_mem hStart (fun p hp => Nat.lt_trans (start_lt p hp) few) id b hq
    have h2 : id < Tryz.prog.globals.size := start_lt _ h1
    rw [top_n] at hid
    exact absurd h2 (Nat.not_lt.2 hid)
theorem knows_any (w : World) (hE : Env w) :
    Calls Tryz.prog 6 #[] w fun e w' => e = .returned (.bool true) ∧ Below w.heap.size w w' := by
  have hk : ∃ h', ev (cC Tryz.prog) (tblX Tryz.prog X0) (memoF [m11, m10, m9, m8, m7, m6, m5, m4, m3, m2, m1, m0]) 1000000 (top hTop.n) (.call (.fnB 6) []) hTop = .call (.bool true) h' := by
    exact isT_some knows_true
  obtain ⟨h', hk⟩ := hk
  let sz : Nat → Nat := fun g => match w.heap[g]? with | some (.cells cur _ _) => cur.size | _ => 0
  let β : Bet := fun g => if g < Tryz.prog.globals.size then some ⟨g, 0, sz g, dv⟩ else none
  have hβ : ∀ g, g < Tryz.prog.globals.size → β g = some ⟨g, 0, sz g, dv⟩ := fun g hg => by
    show (if g < Tryz.prog.globals.size then _ else none) = _
    rw [if_pos hg]
  have hview : ∀ id b, view (top hTop.n) hTop id = some b → ∃ p ∈ G0, cG p = some (id, b) := fun id b q => by
    have q1 := (getB_view q).1
    exact cG_mem G0 hStart start_ok _ (mkT_mem hStart (fun p hp => Nat.lt_trans (start_lt p hp) few) id b q1)
  have hlow : ∀ id b, view (top hTop.n) hTop id = some b → id < Tryz.prog.globals.size := fun id b q => by
    have q1 := (getB_view q).1
    exact start_lt _ (mkT_mem hStart (fun p hp => Nat.lt_trans (start_lt p hp) few) id b q1)
  have hr : HR (top hTop.n).floor β (view (top hTop.n) hTop) w := by
    refine ⟨fun id b q => ?_, fun i j b d L M q1 q2 q3 q4 q5 => ?_⟩
    · obtain ⟨p, hp, hc⟩ := hview id b q
      obtain ⟨t, ht⟩ := hE.at_ p hp
      unfold cG at hc
      simp only [Option.map_eq_some_iff, Prod.mk.injEq] at hc
      obtain ⟨avs, h1, h2, rfl⟩ := hc
      subst h2
      refine ⟨_, hβ _ (hlow _ _ q), ?_, _, (t, (0, 0)), ht, ⟨by simp [sz, ht], ?_, fun i _ _ => by simp⟩, fun i v hi => ?_⟩
      · rcases Nat.lt_or_ge p.1 w.heap.size with hl | hl
        · exact hl
        · rw [Array.getElem?_eq_none hl] at ht; cases ht
      · have := (cCells_VR (β := β) _ _ h1).length
        simp [sz, ht, this]
      · obtain ⟨u, q1, q2⟩ := (cCells_VR (β := β) _ _ h1).get hi
        exact ⟨u, by simpa using q1, q2⟩
    · rw [hβ i (hlow _ _ q1)] at q3; rw [hβ j (hlow _ _ q2)] at q4
      cases q3; cases q4; exact Or.inl q5
  have hgb : GB Tryz.prog.globals.size β := fun g hg => ⟨sz g, hβ g hg⟩
  refine (ev_top (cargs := []) mixed noGoroutines extOk memo11 hk wf_top hgb hr (fun id hid => ?_) (by simp [VRs])).mono fun e w' ⟨β', val, h1, h2, _, h4⟩ => ?_
  · rw [top_n] at hid
    show (if id < Tryz.prog.globals.size then _ else none) = none
    rw [if_neg (Nat.not_lt.2 hid)]
  · simp only [VR] at h2
    subst h2
    exact ⟨h1, h4⟩
end Go.Proofs.YtndmnbigfpaenaaGreatDoor.Ev
