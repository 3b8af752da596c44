/- The example of the chapter: it returns true, whatever the world, and writes nothing old. -/
import Derived.Test.YtmdceifbbmnfgaaGreatDoorProg
import Derived.Test.YtmdceifbbmnfgaaGreatDoorMem
import Derived.Laws.Externs
import Derived.Lib.Bytealg
import Derived.KernelRfl
import Derived.Test.YtmdceifbbmnfgaaGreatDoorEvX
import Derived.Test.YtmdceifbbmnfgaaGreatDoorK0
import Derived.Test.YtmdceifbbmnfgaaGreatDoorK1
import Derived.Test.YtmdceifbbmnfgaaGreatDoorK2
import Derived.Test.YtmdceifbbmnfgaaGreatDoorK3
import Derived.Test.YtmdceifbbmnfgaaGreatDoorK4
import Derived.Test.YtmdceifbbmnfgaaGreatDoorK5
import Derived.Test.YtmdceifbbmnfgaaGreatDoorK6
import Derived.Test.YtmdceifbbmnfgaaGreatDoorK7
import Derived.Test.YtmdceifbbmnfgaaGreatDoorK8
import Derived.Test.YtmdceifbbmnfgaaGreatDoorK9
import Derived.Test.YtmdceifbbmnfgaaGreatDoorKE
set_option linter.unusedVariables false
set_option linter.unusedSimpArgs false
namespace Go.Proofs.YtmdceifbbmnfgaaGreatDoor.Ev
open Go Go.RowKit
theorem mixed : Tryz.prog.follows .mixedOrders = true := by kernel_rfl
theorem noGoroutines : ∀ (f : Nat) (fn : Func), Tryz.prog.funcs[f]? = some fn → (fn.name == "runtime.NumGoroutine") = false := by
 have h : Tryz.prog.funcs.toList.all (fun fn => !(fn.name == "runtime.NumGoroutine")) = true := by kernel_rfl
 intro f fn hf
 have hm : fn ∈ Tryz.prog.funcs.toList := by
  obtain ⟨hlt, rfl⟩ := Array.getElem?_eq_some_iff.1 hf
  simp
 have := List.all_eq_true.1 h fn hm
 simpa using this
theorem get_bang {s : ByteArray} {k : Nat} {b : UInt8} (h : s.data.toList[k]? = some b) : s[k]! = b := by
 have h1 : s.data[k]? = some b := by simpa using h
 obtain ⟨hlt, he⟩ := Array.getElem?_eq_some_iff.1 h1
 have hlt' : k < s.size := hlt
 rw [getElem!_pos s k hlt']
 exact he
theorem idxB_find {s : ByteArray} {c : Nat} (hc : c ≤ 255) : ∀ (l : List UInt8) (i : Nat), (∀ j, l[j]? = s.data.toList[i + j]?) → idxB c (l.map UInt8.toNat) i = match (List.range' i l.length).find? (fun k => s[k]! == c.toUInt8) with | some k => (k : Int) | none => -1
 | [], i, _ => rfl
 | b :: l, i, h => by
  have h0 := h 0
  simp only [List.getElem?_cons_zero, Nat.add_zero] at h0
  have hb := get_bang h0.symm
  have ih := idxB_find hc l (i + 1) (fun j => by have := h (j + 1); simp only [List.getElem?_cons_succ] at this; rw [this]; congr 1; omega)
  simp only [List.map_cons, idxB, List.length_cons, List.range'_succ, List.find?_cons]
  have hcn : c.toUInt8.toNat = c := by simp [Nat.toUInt8, UInt8.toNat_ofNat']; omega
  cases hq : Nat.beq b.toNat c with
  | true =>
   have e := Nat.eq_of_beq_eq_true hq
   have : (s[i]! == c.toUInt8) = true := by
    rw [hb, beq_iff_eq]
    exact UInt8.toNat_inj.1 (by rw [hcn]; exact e)
   rw [this]; rfl
  | false =>
   have : (s[i]! == c.toUInt8) = false := by
    rw [hb, beq_eq_false_iff_ne]
    intro q
    rw [q, hcn] at hq
    simp at hq
   rw [this]; exact ih
theorem extOk : ExtOk Tryz.prog X0 := by
 intro f g hf args v hg β cargs w hv
 unfold X0 extOf at hf
 cases hb : Nat.beq 485 f with
 | false => rw [hb] at hf; cases hf
 | true =>
  rw [hb] at hf
  simp only [cond, Option.some.injEq] at hf
  have e := Nat.eq_of_beq_eq_true hb
  subst e hf
  unfold gIB at hg
  split at hg
  ·rename_i s c
   cases hc : Nat.ble c 255 with
   | false => rw [hc] at hg; cases hg
   | true =>
    rw [hc] at hg
    simp only [cond, forceInt_eq, Option.some.injEq] at hg
    subst hg
    simp only [VRs, VR] at hv
    obtain ⟨u, us, rfl, ⟨b, rfl, rfl⟩, u2, us2, rfl, rfl, rfl⟩ := hv
    have hc' := Nat.le_of_ble_eq_true hc
    refine ⟨.int .i64 (firstIdx b c.toUInt8), ?_, ?_⟩
    ·rw [run_callFunc_extern (fn := Tryz.f485) (e := Extern.BytealgIndexByte.indexByte) Tryz.func485 (by kernel_rfl) (by kernel_rfl) (by kernel_rfl) (by kernel_rfl)]
     have := run_indexByte_string (P := Tryz.prog) b (Int.ofNat c) w
     rw [show ((Value.string b :: [Value.int .u8 (Int.ofNat c)]).toArray : Array Value) = #[.string b, .int .u8 (Int.ofNat c)] from rfl, this]
     rfl
    ·have := idxB_find (s := b) hc' b.data.toList 0 (by simp)
     simp only [VR]
     rw [this]
     unfold firstIdx
     rw [List.range_eq_range']
     have hl : b.data.toList.length = b.size := by simp
     rw [hl]
     cases (List.range' 0 b.size).find? (fun k => b[k]! == c.toUInt8) <;> rfl
  ·cases hg
theorem baseOk : MemoOk Tryz.prog Tryz.prog.globals.size Mb := MemoOk.no
theorem ng_eq : Tryz.prog.globals.size = 3 := by kernel_rfl
theorem baseOk' : MemoOk Tryz.prog 3 Mb := ng_eq ▸ baseOk
theorem mk_ok {L : List RMemo} (hL : ∀ m ∈ L, RGood Tryz.prog 3 m) : MemoOk Tryz.prog 3 (Mk Tryz.prog L) :=
 have hr : MemoOk Tryz.prog 3 (Mr L) := orM_ok (rmT_ok hL) baseOk'
 orM_ok hr (nevM_ok mixed (opOk _ _) (Nat.le_of_eq ng_eq) noGoroutines extOk hr)
theorem app_good {L M : List RMemo} (h1 : ∀ m ∈ L, RGood Tryz.prog 3 m) (h2 : ∀ m ∈ M, RGood Tryz.prog 3 m) : ∀ m ∈ L ++ M, RGood Tryz.prog 3 m := fun m hm => by
 rcases List.mem_append.1 hm with q | q
 ·exact h1 m q
 ·exact h2 m q
theorem good0 : ∀ m ∈ L0, RGood Tryz.prog 3 m := rgood_all mixed (opOk _ _) (Nat.le_of_eq ng_eq) noGoroutines extOk (mk_ok (L := []) (fun m hm => by cases hm)) bears0
theorem good1 : ∀ m ∈ L1, RGood Tryz.prog 3 m := rgood_all mixed (opOk _ _) (Nat.le_of_eq ng_eq) noGoroutines extOk (mk_ok (L := (L0)) good0) bears1
theorem good2 : ∀ m ∈ L2, RGood Tryz.prog 3 m := rgood_all mixed (opOk _ _) (Nat.le_of_eq ng_eq) noGoroutines extOk (mk_ok (L := (L1 ++ L0)) (app_good good1 good0)) bears2
theorem good3 : ∀ m ∈ L3, RGood Tryz.prog 3 m := rgood_all mixed (opOk _ _) (Nat.le_of_eq ng_eq) noGoroutines extOk (mk_ok (L := (L2 ++ L1 ++ L0)) (app_good (app_good good2 good1) good0)) bears3
theorem good4 : ∀ m ∈ L4, RGood Tryz.prog 3 m := rgood_all mixed (opOk _ _) (Nat.le_of_eq ng_eq) noGoroutines extOk (mk_ok (L := (L3 ++ L2 ++ L1 ++ L0)) (app_good (app_good (app_good good3 good2) good1) good0)) bears4
theorem good5 : ∀ m ∈ L5, RGood Tryz.prog 3 m := rgood_all mixed (opOk _ _) (Nat.le_of_eq ng_eq) noGoroutines extOk (mk_ok (L := (L4 ++ L3 ++ L2 ++ L1 ++ L0)) (app_good (app_good (app_good (app_good good4 good3) good2) good1) good0)) bears5
theorem good6 : ∀ m ∈ L6, RGood Tryz.prog 3 m := rgood_all mixed (opOk _ _) (Nat.le_of_eq ng_eq) noGoroutines extOk (mk_ok (L := (L5 ++ L4 ++ L3 ++ L2 ++ L1 ++ L0)) (app_good (app_good (app_good (app_good (app_good good5 good4) good3) good2) good1) good0)) bears6
theorem good7 : ∀ m ∈ L7, RGood Tryz.prog 3 m := rgood_all mixed (opOk _ _) (Nat.le_of_eq ng_eq) noGoroutines extOk (mk_ok (L := (L6 ++ L5 ++ L4 ++ L3 ++ L2 ++ L1 ++ L0)) (app_good (app_good (app_good (app_good (app_good (app_good good6 good5) good4) good3) good2) good1) good0)) bears7
theorem good8 : ∀ m ∈ L8, RGood Tryz.prog 3 m := rgood_all mixed (opOk _ _) (Nat.le_of_eq ng_eq) noGoroutines extOk (mk_ok (L := (L7 ++ L6 ++ L5 ++ L4 ++ L3 ++ L2 ++ L1 ++ L0)) (app_good (app_good (app_good (app_good (app_good (app_good (app_good good7 good6) good5) good4) good3) good2) good1) good0)) bears8
theorem good9 : ∀ m ∈ L9, RGood Tryz.prog 3 m := rgood_all mixed (opOk _ _) (Nat.le_of_eq ng_eq) noGoroutines extOk (mk_ok (L := (L8 ++ L7 ++ L6 ++ L5 ++ L4 ++ L3 ++ L2 ++ L1 ++ L0)) (app_good (app_good (app_good (app_good (app_good (app_good (app_good (app_good good8 good7) good6) good5) good4) good3) good2) good1) good0)) bears9
theorem allOk : MemoOk Tryz.prog Tryz.prog.globals.size (Mk Tryz.prog (L9 ++ L8 ++ L7 ++ L6 ++ L5 ++ L4 ++ L3 ++ L2 ++ L1 ++ L0)) := by
 have := mk_ok (L := (L9 ++ L8 ++ L7 ++ L6 ++ L5 ++ L4 ++ L3 ++ L2 ++ L1 ++ L0)) (app_good (app_good (app_good (app_good (app_good (app_good (app_good (app_good (app_good good9 good8) good7) good6) good5) good4) good3) good2) good1) good0)
 rw [ng_eq]
 exact this
theorem isT_some {x : Res} (h : isT x = true) : ∃ h', x = .call (.bool true) h' := by
 unfold isT at h
 split at h
 ·exact ⟨_, rfl⟩
 ·cases h
theorem cG_mem : ∀ (G : List (Nat × List Value)) (l : List (Nat × AB)), G.mapM cG = some l → ∀ q ∈ l, ∃ p ∈ G, cG p = some q
 | [], l, e, q, hq => by simp at e; subst e; cases hq
 | p :: G, l, e, q, hq => by
  simp only [List.mapM_cons, Option.bind_eq_bind, Option.bind_eq_some_iff, Option.pure_def, Option.some.injEq] at e
  obtain ⟨x, h1, xs, h2, rfl⟩ := e
  rcases List.mem_cons.1 hq with rfl | hq
  ·exact ⟨p, by simp, h1⟩
  ·obtain ⟨p', h3, h4⟩ := cG_mem G xs h2 q hq
   exact ⟨p', by simp [h3], h4⟩
theorem start_lt : ∀ p ∈ hStart, p.1 < Tryz.prog.globals.size := by
 have h : (hStart.all fun p => Nat.blt p.1 Tryz.prog.globals.size) = true := by kernel_rfl
 intro p hp
 have := List.all_eq_true.1 h p hp
 simpa [Nat.blt_eq] using this
theorem top_n : hTop.n = Tryz.prog.globals.size := by kernel_rfl
theorem few : Tryz.prog.globals.size < 10000000 := by
 have h : Nat.blt Tryz.prog.globals.size 10000000 = true := by kernel_rfl
 exact Eq.mp Nat.blt_eq h
theorem wf_top : WF hTop := by
 refine ⟨fun id hid => ?_, by rw [top_n]; exact Nat.le_of_lt few⟩
 cases hq : Tr.get hTop.t id with
 | none => rfl
 | some b =>
  have h1 := mkT_mem (l := hStart) (fun p hp => Nat.lt_trans (start_lt p hp) few) id b hq
  have h2 : id < Tryz.prog.globals.size := start_lt _ h1
  rw [top_n] at hid
  exact absurd h2 (Nat.not_lt.2 hid)
def EnvG (G : List (Nat × List Value)) (w : World) : Prop := ∀ p ∈ G, ∃ (cur : Array Value) (t : TypeId × (Nat × Nat)), w.heap[p.1]? = some (.cells cur t.1 t.2) ∧ (∀ i, i < p.2.length → (decide (t.2.1 ≤ i) && decide (i < t.2.2)) = false) ∧ ∀ (i : Nat) (v : Value), p.2[i]? = some v → cur[i]? = some v
theorem mapM_len {α β : Type} {f : α → Option β} : ∀ {l : List α} {r : List β}, l.mapM f = some r → r.length = l.length
 | [], r, e => by simp at e; subst e; rfl
 | x :: l, r, e => by
  simp only [List.mapM_cons, Option.bind_eq_bind, Option.bind_eq_some_iff, Option.pure_def, Option.some.injEq] at e
  obtain ⟨y, h1, ys, h2, rfl⟩ := e
  simp [mapM_len h2]
theorem MK_okG {P : Program} {ng f : Nat} {G : List (Nat × List Value)} {GA : List (Nat × AB)} (hG : G.mapM cG = some GA) (hlt : ∀ p ∈ G, p.1 < ng) (hfn : ∃ fn, P.funcs[f]? = some fn ∧ fn.body.isNone = false ∧ (fn.name == "runtime.NumGoroutine") = false)
  (hk : ∀ w, EnvG G w → Calls P f #[] w fun e w' => e = .returned (.bool true) ∧ Below w.heap.size w w') : MemoOk P ng (MK f GA) := by
 intro g args c h v h' q hc hw
 unfold MK at q
 cases hb : Nat.beq g f with
 | false => rw [hb] at q; cases q
 | true =>
  rw [hb] at q
  have e := Nat.eq_of_beq_eq_true hb
  subst e
  cases args with
  | cons a l => cases q
  | nil =>
   simp only [cond] at q
   cases ha : GA.all (fun p => eqOB (getB c h p.1) (some p.2)) with
   | false => rw [ha] at q; cases q
   | true =>
    rw [ha] at q
    cases q
    refine FnDid.up ⟨Step.refl hw, hfn, fun β w cargs hgb hr hv hfr R hR => ?_⟩
    have hv' : cargs = [] := by simpa [VRs] using hv
    subst hv'
    have hE : EnvG G w := fun p hp => by
     obtain ⟨x, hx, hcx⟩ := mapM_mem hG hp
     have h1 := eqOB_sound (List.all_eq_true.1 ha x hx)
     unfold cG at hcx
     simp only [Option.map_eq_some_iff] at hcx
     obtain ⟨avs, h2, rfl⟩ := hcx
     have h3 := view_cells h1
     obtain ⟨L, h4, h5, cur, t, h6, h7, h8⟩ := hr.at_ _ _ h3
     obtain ⟨s, h9⟩ := hgb p.1 (hlt p hp)
     rw [h9] at h4; cases h4
     refine ⟨cur, t, h6, fun i hi => h7.nf i (Nat.zero_le _) (by have q7 : 0 + _ ≤ s := h7.fit; rw [mapM_len h2] at q7; show i < s; omega), fun i v hi => ?_⟩
     obtain ⟨b, h10, h11⟩ := mapM_get h2 i v hi
     obtain ⟨u, h12, h13⟩ := h8 i b h10
     rw [cCell_inj h11 h13] at h12
     simpa using h12
    refine (hk w hE).mono fun e w' ⟨he, hbw⟩ => ?_
    subst he
    refine hR β (.bool true) w' ⟨Nat.le_refl _, Sub.refl _, fun id L q1 q2 => by (rw [q2] at q1; cases q1), ⟨fun id b q => ?_, hr.inj⟩, hbw.os, hbw.tape, hbw.output, hbw.size, fun B hB _ => hbw.block B hB, fun id L q1 q2 => by (rw [q2] at q1; cases q1), fun id b q => Or.inl ⟨b, q⟩⟩ rfl
    obtain ⟨L, q1, q2, q3⟩ := hr.at_ id b q
    exact ⟨L, q1, Nat.lt_of_lt_of_le q2 hbw.size, q3.mono (Sub.refl _) (hbw.block _ q2)⟩
def szG (g : Nat) : Nat := match G0.find? (fun p => Nat.beq p.1 g) with
 | some p => p.2.length
 | none => 0
theorem szG_eq : ∀ p ∈ G0, szG p.1 = p.2.length := by
 have h : (G0.all fun p => Nat.beq (szG p.1) p.2.length) = true := by kernel_rfl
 intro p hp
 exact Nat.eq_of_beq_eq_true (List.all_eq_true.1 h p hp)
theorem knows_any (w : World) (hE : EnvG G0 w) :
  Calls Tryz.prog 9 #[] w fun e w' => e = .returned (.bool true) ∧ Below w.heap.size w w' := by
 have hk : ∃ h', ev (cC Tryz.prog) (tblX Tryz.prog X0) (Mk Tryz.prog (L9 ++ L8 ++ L7 ++ L6 ++ L5 ++ L4 ++ L3 ++ L2 ++ L1 ++ L0)) 1000000 (top hTop.n) (.call (.fnB 9) []) hTop = .call (.bool true) h' := by
  exact isT_some knows_true
 obtain ⟨h', hk⟩ := hk
 let β : Bet := fun g => if g < Tryz.prog.globals.size then some ⟨g, 0, szG g, dv⟩ else none
 have hβ : ∀ g, g < Tryz.prog.globals.size → β g = some ⟨g, 0, szG g, dv⟩ := fun g hg => by
  show (if g < Tryz.prog.globals.size then _ else none) = _
  rw [if_pos hg]
 have hview : ∀ id b, view (top hTop.n) hTop id = some b → ∃ p ∈ G0, cG p = some (id, b) := fun id b q => by
  have q1 := (getB_view q).1
  exact cG_mem G0 hStart start_ok _ (mkT_mem (l := hStart) (fun p hp => Nat.lt_trans (start_lt p hp) few) id b q1)
 have hlow : ∀ id b, view (top hTop.n) hTop id = some b → id < Tryz.prog.globals.size := fun id b q => by
  have q1 := (getB_view q).1
  exact start_lt _ (mkT_mem (l := hStart) (fun p hp => Nat.lt_trans (start_lt p hp) few) id b q1)
 have hr : HR (top hTop.n).floor β (view (top hTop.n) hTop) w := by
  refine ⟨fun id b q => ?_, fun i j b d L M q1 q2 q3 q4 q5 => ?_⟩
  ·obtain ⟨p, hp, hc⟩ := hview id b q
   obtain ⟨cur, t, ht, hnf, hval⟩ := hE p hp
   unfold cG at hc
   simp only [Option.map_eq_some_iff, Prod.mk.injEq] at hc
   obtain ⟨avs, h1, h2, rfl⟩ := hc
   subst h2
   have hlen := (cCells_VR (β := β) _ _ h1).length
   have hsz := szG_eq p hp
   have hcs : p.2.length ≤ cur.size := by
    rcases Nat.lt_or_ge cur.size p.2.length with q1 | q1
    ·have q2 := hval cur.size _ (List.getElem?_eq_getElem q1)
     rw [Array.getElem?_eq_none (Nat.le_refl _)] at q2; cases q2
    ·exact q1
   refine ⟨_, hβ _ (hlow _ _ q), ?_, cur, t, ht, ⟨by show szG p.1 ≤ _; omega, by show 0 + _ ≤ szG p.1; omega, fun i _ hi => hnf i (by have hi : i < szG p.1 := hi; omega)⟩, fun i v hi => ?_⟩
   ·rcases Nat.lt_or_ge p.1 w.heap.size with hl | hl
    ·exact hl
    ·rw [Array.getElem?_eq_none hl] at ht; cases ht
   ·obtain ⟨u, q1, q2⟩ := (cCells_VR (β := β) _ _ h1).get hi
    exact ⟨u, by have := hval i u q1; simpa using this, q2⟩
  ·rw [hβ i (hlow _ _ q1)] at q3; rw [hβ j (hlow _ _ q2)] at q4
   cases q3; cases q4; exact Or.inl q5
 have hgb : GB Tryz.prog.globals.size β := fun g hg => ⟨szG g, hβ g hg⟩
 refine (ev_top (cargs := []) mixed noGoroutines extOk allOk hk wf_top hgb hr (fun id hid => ?_) (by simp [VRs])).mono fun e w' ⟨β', val, h1, h2, _, h4⟩ => ?_
 ·rw [top_n] at hid
  show (if id < Tryz.prog.globals.size then _ else none) = none
  rw [if_neg (Nat.not_lt.2 hid)]
 ·simp only [VR] at h2
  subst h2
  exact ⟨h1, h4⟩
end Go.Proofs.YtmdceifbbmnfgaaGreatDoor.Ev
