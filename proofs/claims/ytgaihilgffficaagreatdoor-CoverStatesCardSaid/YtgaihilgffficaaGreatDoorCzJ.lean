/- CoverStates, part 43 -/
import Derived.Test.YtgaihilgffficaaGreatDoorCyG
import Derived.Test.YtgaihilgffficaaGreatDoorCzE
import Derived.Test.YtgaihilgffficaaGreatDoorSyQ
import Derived.Test.YtgaihilgffficaaGreatDoorInLo
import Derived.Deep.DeepHandedRow
import Derived.Lib.LaidTab
set_option linter.all false
namespace Go.Proofs.YtgaihilgffficaaGreatDoor.Ev
open Go Go.RowKit
theorem Nw : C7 Tryz.prog 20 27 = some (AP, 3) := by kernel_rfl
theorem Nx : C7 Tryz.prog 20 31 = some (wW, 5) := by kernel_rfl
theorem Ny : C7 Tryz.prog 20 32 = some (.arr (.int .i64), 1) := by kernel_rfl
/-! no slice is too long -/
theorem zE.l {n : Nat} {d : Dt} (h : zE n d) : d.l.length ≤ n ∧ ∀ x ∈ d.l, zE n x := by
 cases h with
 | row l h1 h2 => exact ⟨h1, h2⟩
 | arr l h1 h2 => exact ⟨h1, h2⟩
 | _ => exact ⟨Nat.zero_le _, fun x hx => absurd hx (by simp [Dt.l])⟩
theorem zE.f {n : Nat} {d : Dt} (h : zE n d) (i : Nat) : zE n (d.f i) := by
 have h1 := h.l.2
 unfold Dt.f
 rcases Nat.lt_or_ge i d.l.length with q | q
 ·rw [List.getD_eq_getElem?_getD, List.getElem?_eq_getElem q]
  exact h1 _ (List.getElem_mem q)
 ·rw [List.getD_eq_getElem?_getD, List.getElem?_eq_none q]
  exact .int 0
theorem PZ {d : Dt} (h : zE fZ d) : ∀ i, i < (nQ d).fns.length → ∀ j, j < (el (nQ d).fns i).code.length → (el (el (nQ d).fns i).code j).args.length ≤ fZ := by
 intro i hi j hj
 have hi' : i < (d.f 1).l.length := by simpa [nQ] using hi
 have e1 : el (nQ d).fns i = HE (el (d.f 1).l i) := cQ hi'
 rw [e1] at hj ⊢
 have hj' : j < ((el (d.f 1).l i).f 6).l.length := by simpa [HE] using hj
 have e2 : el (HE (el (d.f 1).l i)).code j = HD (el ((el (d.f 1).l i).f 6).l j) := cQ hj'
 rw [e2]
 have b1 := (h.f 1).l.2 _ (b8 hi')
 have b2 := (b1.f 6).l.2 _ (b8 hj')
 have b3 := (b2.f 7).l.1
 show (((el ((el (d.f 1).l i).f 6).l j).f 7).l.map Dt.n).length ≤ fZ
 rw [List.length_map]
 exact b3
/-! the listed variables -/
def C8 (l : List (List Nat)) : Array Value := (l.map fun s => Value.string ⟨(s.map Nat.toUInt8).toArray⟩).toArray
def GJ : List (Nat × List (List Nat)) := [(0, nZ), (1, zD)]
def Kz (W : World) : Prop := ∀ p ∈ GJ, ∃ t, W.heap[p.1]? = some (.cells (C8 p.2) t (0, 0))
theorem Nz : ∀ p ∈ GJ, ∀ s ∈ p.2, (s.map Nat.toUInt8).map UInt8.toNat = s := by
 have h : (GJ.all fun p => p.2.all fun s => decide ((s.map Nat.toUInt8).map UInt8.toNat = s)) = true := by kernel_rfl
 intro p hp s hs
 exact of_decide_eq_true (List.all_eq_true.1 (List.all_eq_true.1 h p hp) s hs)
theorem P0 {w : World} (hE : Kz w) (β : cn) : ∀ p ∈ GJ.map (fun p => (p.1, p.2.map AV.str)), p.1 < w.heap.size ∧ BR β ⟨p.1, 0, (fun g => if g = 0 then nZ.length else zD.length) p.1, dv⟩ w (.cells p.2) := by
 intro p hp
 obtain ⟨q, hq, rfl⟩ := List.mem_map.1 hp
 obtain ⟨t, ht⟩ := hE q hq
 have hl : (fun g => if g = 0 then nZ.length else zD.length) q.1 = q.2.length := by
  simp only [GJ, List.mem_cons, List.not_mem_nil, or_false] at hq
  rcases hq with rfl | rfl <;> rfl
 have hsz : (C8 q.2).size = q.2.length := by simp [C8]
 refine ⟨(Array.getElem?_eq_some_iff.1 ht).1, C8 q.2, (t, (0, 0)), ht, ⟨?_, ?_, fun i _ _ => by simp⟩, fun i v hi => ?_⟩
 ·show (fun g => if g = 0 then nZ.length else zD.length) q.1 ≤ _
  rw [hl, hsz]; exact Nat.le_refl _
 ·show 0 + (q.2.map AV.str).length ≤ (fun g => if g = 0 then nZ.length else zD.length) q.1
  rw [hl, List.length_map]; omega
 ·simp only [List.getElem?_map, Option.map_eq_some_iff] at hi
  obtain ⟨s, h1, rfl⟩ := hi
  refine ⟨.string ⟨(s.map Nat.toUInt8).toArray⟩, by simp [C8, h1], ?_⟩
  simp only [VR]
  exact ⟨_, rfl, Nz q hq s (List.mem_of_getElem? h1)⟩
theorem yO {h : H} {F : Nat → Prop} : ∀ (l : List (List Nat)), Rs h F (l.map PV.str) (l.map AV.str)
 | [] => .nil
 | s :: l => .cons _ _ _ _ (.str s) (yO l)
theorem KA {h : H} (hg : ∀ p ∈ GJ.map (fun p => (p.1, p.2.map AV.str)), h.get p.1 = some (.cells p.2)) (hn : ∀ p ∈ GJ, p.1 < h.n) : jQ h fun id => id < h.n := by
 intro g row e
 have e' : (bif Nat.beq g 0 then some (nZ.map PV.str) else bif Nat.beq g 1 then some (zD.map PV.str) else none) = some row := e
 cases h1 : Nat.beq g 0 with
 | true =>
  rw [h1] at e'
  have e1 := Nat.eq_of_beq_eq_true h1
  subst e1
  cases e'
  exact ⟨hn (_, nZ) (.head _), _, hg (_, nZ.map AV.str) (List.mem_map.2 ⟨(_, nZ), .head _, rfl⟩), yO _⟩
 | false =>
  rw [h1] at e'
  cases h2 : Nat.beq g 1 with
  | true =>
   rw [h2] at e'
   have e1 := Nat.eq_of_beq_eq_true h2
   subst e1
   cases e'
   exact ⟨hn (_, zD) (.tail _ (.head _)), _, hg (_, zD.map AV.str) (List.mem_map.2 ⟨(_, zD), .tail _ (.head _), rfl⟩), yO _⟩
  | false => rw [h2] at e'; cases e'
/-! the known calls -/
theorem NA {dr : Prop} {P : Program} {ng : Nat} {a b : Mf} (ha : dG dr P ng a) (hb : dG dr P ng b) : dG dr P ng (Px a b) := fun f args c h v h' e hc hw => by
 unfold Px at e
 cases q : a f args c h with
 | some r => rw [q] at e; cases e; exact ha f args c h _ _ q hc hw
 | none => rw [q] at e; exact hb f args c h _ _ e hc hw
theorem P1 : dG False Tryz.prog Tryz.prog.globals.size Mx :=
 NA (P2 (G := []) rfl (fun p hp => by cases hp) ⟨_, Tryz.func4, by kernel_rfl, by kernel_rfl⟩ (fun w _ => Fv w))
  (C5 (tA := 44) ⟨_, Tryz.func23, by kernel_rfl, by kernel_rfl⟩ fun w Bm ob b clock es ks h1 h2 h3 h4 h5 h6 =>
   Kv Nv (Go.Proofs.enters_of Tryz.func25 (by decide) rfl) w Bm ob b clock es ks h1 h2 h3 h4 h5 h6)
theorem eK.agg {w : World} {k k' : Nat} {cs : List Value} {avs : List AV} {L : List En} {R : H → Prop} (r : eK w k k' cs avs L R) : eK w k k' [.agg cs.toArray] [.agg avs] L R :=
 ⟨r.le, r.ids, r.nodup, r.rp, fun β hβ => ⟨⟨_, _, rfl, ⟨_, rfl, by simpa using (r.vr β hβ).1⟩, rfl⟩, (r.vr β hβ).2⟩⟩
theorem Fw {H : Type} {enc : TypeId × Value → H} {held : Bool} {w : World} (hE : Kz w) {n1 n2 n3 : Nat} {c1 c2 c3 : List Value} {y1 y2 y3 : DataW H × List MemPlace}
    (h1 : DataW.trod enc Tryz.prog w 0 (fun _ => true) held n1 27 c1 = some y1) (f1 : w.noneFrozen y1.2) (m1 : ∀ x ∈ DataW.weights Tryz.prog 27 y1.1, x ≤ reachBytes)
    (h2 : DataW.trod enc Tryz.prog w 0 (fun _ => true) held n2 31 c2 = some y2) (f2 : w.noneFrozen y2.2) (m2 : ∀ x ∈ DataW.weights Tryz.prog 31 y2.1, x ≤ reachBytes)
    (h3 : DataW.trod enc Tryz.prog w 0 (fun _ => true) held n3 32 c3 = some y3) (f3 : w.noneFrozen y3.2) (m3 : ∀ x ∈ DataW.weights Tryz.prog 32 y3.1, x ≤ reachBytes) :
    Calls Tryz.prog 3 (.agg c1.toArray :: .agg c2.toArray :: c3).toArray w fun e w' => e = .returned (.bool true) ∧ Below w.heap.size w w' := by
 have hM8 : 1000 ≤ reachBytes / 8 := by decide
 obtain ⟨d1, a1, k1, L1, _, b1, r1⟩ := (mg (B := 9223372036854775807) (M := reachBytes) (enc := enc) (w := w) (held := held) hM8 20 27 AP 3 Nw).2 n1 c1 y1 h1 f1 m1 Tryz.prog.globals.size
 obtain ⟨d2, a2, k2, L2, _, _, r2⟩ := (mg (B := 9223372036854775807) (M := reachBytes) (enc := enc) (w := w) (held := held) hM8 20 31 wW 5 Nx).2 n2 c2 y2 h2 f2 m2 k1
 obtain ⟨d3, a3, k3, L3, _, _, r3⟩ := (mg (B := 9223372036854775807) (M := reachBytes) (enc := enc) (w := w) (held := held) hM8 20 32 (.arr (.int .i64)) 1 Ny).2 n3 c3 y3 h3 f3 m3 k2
 have r := ((r1.agg).append ((r2.agg).append r3 (R := fun h => Rp 9223372036854775807 false h wW d2 a2 ∧ Rp 9223372036854775807 false h (.arr (.int .i64)) d3 a3) (fun h q1 q2 => ⟨q1, q2⟩))
  (R := fun h => Rp 9223372036854775807 false h AP d1 a1 ∧ Rp 9223372036854775807 false h wW d2 a2 ∧ Rp 9223372036854775807 false h (.arr (.int .i64)) d3 a3) (fun h q1 q2 => ⟨q1, q2⟩))
 have hlt : ∀ p ∈ GJ, p.1 < Tryz.prog.globals.size := fun p hp => by
  rw [SE]
  simp only [GJ, List.mem_cons, List.not_mem_nil, or_false] at hp
  rcases hp with rfl | rfl <;> decide
 obtain ⟨h0, β, hn, hwf, hcx, ⟨q1, q2, q3⟩, hv, hr, hgb, hdom, _, hgl⟩ := r.NB (fun g => if g = 0 then nZ.length else zD.length) (GJ.map fun p => (p.1, p.2.map AV.str)) (fun p hp => by
  obtain ⟨q, hq, rfl⟩ := List.mem_map.1 hp
  exact hlt q hq) (by
  have h : ((GJ.map fun p => (p.1, p.2.map AV.str)).map Prod.fst).Nodup := of_decide_eq_true (by kernel_rfl)
  exact List.pairwise_map.1 h) (fun β p hp => P0 hE β p hp)
 subst hn
 have hle := r.le
 obtain ⟨v, h', hg, rfl⟩ := Kr (Nat.le_refl _) hcx (fun id => ew (Nat.zero_le _)) (KA hgl fun p hp => Nat.lt_of_lt_of_le (hlt p hp) hle) q1 q2 q3 (PZ b1)
 refine (HO (dr := False) mixed kS Ms P1 (D7 jD (jB _) hg) hwf hgb hr hdom hv).mono fun e w' ⟨β', val, h1, h2, _, h4, _⟩ => ?_
 simp only [VR] at h2
 subst h2
 exact ⟨h1, h4⟩
end Go.Proofs.YtgaihilgffficaaGreatDoor.Ev
namespace Go.Proofs.YtgaihilgffficaaGreatDoor
open Go.ChangeShapes Go.WideShapes Go.ChangeAt Go.RowKit Go.Deep
theorem own : ownKnob Tryz.prog.godebug = none := by kernel_rfl
theorem cells_of_lits {H : Type} {enc : TypeId × Value → H} {P : Program} {w : World} {base : Nat} {sp : Nat → Bool} {held : Bool} {fuel : Nat} {t e : TypeId} {n : Nat} {cs : List Value} {zs : List Lit} (pr : Lit → Value) {p : List MemPlace}
    (ht : P.underlying t = some (.array n e)) (he : ∀ (m : Nat) (l : List Value) (y : DataW H × List MemPlace), DataW.trod enc P w base sp held m e l = some y → ∃ z, l = [pr z] ∧ y.1 = .lit z) (hce : P.cellsOf e = 1) (hct : P.cellsOf t = n)
    (h : DataW.trod enc P w base sp held fuel t cs = some (.agg (zs.map fun z => .lit z), p)) : cs = zs.map pr := by
 cases fuel with
 | zero => simp [DataW.trod] at h
 | succ fuel =>
  simp only [DataW.trod, ht, hce, hct, Nat.mul_one] at h
  split at h
  ·rename_i hl
   obtain ⟨xs, hm, hx⟩ := Option.map_eq_some_iff.1 h
   have hxs : xs.map (·.1) = zs.map fun z => (DataW.lit z : DataW H) := by
    have := congrArg Prod.fst hx
    simpa using this
   have hxl : xs.length = n := by simpa using Lib.mapM_length hm
   have hzl : zs.length = n := by
    have := congrArg List.length hxs
    simp at this
    omega
   apply List.ext_getElem?
   intro i
   by_cases hi : i < n
   ·obtain ⟨b, hb, hf⟩ := Lib.mapM_at hm i i (by simp [hi])
    obtain ⟨z, hc, hz⟩ := he _ _ _ hf
    have h1 : cs[i]? = some (pr z) := by
     have := congrArg (·[0]?) hc
     simpa [List.getElem?_take, List.getElem?_drop] using this
    have h2 : (xs.map (·.1))[i]? = some (DataW.lit z : DataW H) := by simp [hb, hz]
    rw [hxs] at h2
    simp only [List.getElem?_map, Option.map_eq_some_iff, DataW.lit.injEq] at h2
    obtain ⟨z', hz', rfl⟩ := h2
    simp [h1, hz']
   ·rw [List.getElem?_eq_none (by omega), List.getElem?_eq_none (by simp; omega)]
  ·cases h
def KB : Lit → Value
 | .string z => .string ⟨z.toArray⟩
 | .int k n => .int k n
 | _ => .bool false
theorem Eb {H : Type} {enc : TypeId × Value → H} {w : World} {base : Nat} {sp : Nat → Bool} {held : Bool} (m : Nat) (l : List Value) (y : DataW H × List MemPlace) (h : DataW.trod enc Tryz.prog w base sp held m 9 l = some y) : ∃ z, l = [KB z] ∧ y.1 = .lit z := by
 obtain ⟨z, hc, rfl, _⟩ := DataW.trod_string Tryz.underlying9 h
 exact ⟨.string z.data.toList, by rw [hc]; simp [KB], rfl⟩
theorem uM {W : World} {n : String} {g : Nat} {cs : Array Value} {ps : List MemPlace} (hg : Tryz.prog.globalNamed n = some g) (hv : W.var? Tryz.prog n = some cs) (hne : 0 < cs.size)
    (hm : ∀ x ∈ MemPlace.row ⟨g, 0, none⟩ cs.size, x ∈ ps) (hp : ∀ b off, MemPlace.cell b off ∈ ps → (∃ c t, W.heap[b]? = some (.cells c t (0, 0))) ∧ ∀ u v, W.cell? ⟨b, off, none⟩ = some (.iface u v) → Value.okWide Tryz.prog W .any 0 u v) :
    ∃ t, W.heap[g]? = some (.cells cs t (0, 0)) := by
 obtain ⟨⟨c, t, hc⟩, _⟩ := hp g 0 (hm _ (by
  unfold MemPlace.row
  rw [List.mem_map]
  exact ⟨0, by simpa using hne, rfl⟩))
 unfold World.var? at hv
 rw [hg, Option.bind_some, hc] at hv
 obtain rfl := Option.some.inj hv
 exact ⟨t, hc⟩
def C9 : DataW Unit → List Lit
 | .agg l => l.filterMap fun | .lit z => some z | _ => none
 | _ => []
def Da : List Lit := C9 Rows.laid_dataflow_ir_forms
def Db : List Lit := C9 Rows.laid_dataflow_lex_keywords
theorem NC {W : World} (h : laidMet Tryz.prog Rows.coverStatesRow.laid W) : Ev.Kz W := by
 obtain ⟨ps, h, hnd, hp⟩ := h
 obtain ⟨g0, t0, cs0, fuel0, p0, q0, hg0, ht0, hv0, hd0, h, hps0⟩ := h
 obtain ⟨g1, t1, cs1, fuel1, p1, q1, hg1, ht1, hv1, hd1, h, hps1⟩ := h
 obtain ⟨g2, t2, cs2, fuel2, p2, q2, hg2, ht2, hv2, hd2, h, hps2⟩ := h
 obtain ⟨g3, t3, cs3, fuel3, p3, q3, hg3, ht3, hv3, hd3, h, hps3⟩ := h
 obtain ⟨g4, t4, cs4, fuel4, p4, q4, hg4, ht4, hv4, hd4, h, hps4⟩ := h
 have e3 : g3 = 0 := Option.some.inj (hg3.symm.trans (show Tryz.prog.globalNamed "dataflow/lex.keywords" = some 0 by kernel_rfl))
 have e4 : g4 = 1 := Option.some.inj (hg4.symm.trans (show Tryz.prog.globalNamed "dataflow/ir.forms" = some 1 by kernel_rfl))
 subst e3 e4
 have f3 : t3 = 281 := Option.some.inj (ht3.symm.trans (show (Tryz.prog.globals[0]?).map (·.type) = some 281 by kernel_rfl))
 have f4 : t4 = 281 := Option.some.inj (ht4.symm.trans (show (Tryz.prog.globals[1]?).map (·.type) = some 281 by kernel_rfl))
 subst f3 f4
 have c3 := cells_of_lits (zs := Db) KB Tryz.underlying281 Eb (by kernel_rfl) (by kernel_rfl) hd3
 have d3 : cs3 = (Db.map KB).toArray := by
  have h2 := congrArg List.toArray c3
  rwa [Array.toArray_toList] at h2
 have c4 := cells_of_lits (zs := Da) KB Tryz.underlying281 Eb (by kernel_rfl) (by kernel_rfl) hd4
 have d4 : cs4 = (Da.map KB).toArray := by
  have h2 := congrArg List.toArray c4
  rwa [Array.toArray_toList] at h2
 have b3 := uM hg3 hv3 (by rw [d3]; exact of_decide_eq_true (by kernel_rfl)) (fun x hx => by rw [hps0, hps1, hps2, hps3]; simp [hx]) hp
 have b4 := uM hg4 hv4 (by rw [d4]; exact of_decide_eq_true (by kernel_rfl)) (fun x hx => by rw [hps0, hps1, hps2, hps3, hps4]; simp [hx]) hp
 have z3 : (Db.map KB).toArray = Ev.C8 Ev.nZ := by kernel_rfl
 have z4 : (Da.map KB).toArray = Ev.C8 Ev.zD := by kernel_rfl
 rw [d3, z3] at b3
 rw [d4, z4] at b4
 intro p hp
 simp only [Ev.GJ, List.mem_cons, List.not_mem_nil, or_false] at hp
 rcases hp with rfl | rfl
 ·exact b3
 ·exact b4
end Go.Proofs.YtgaihilgffficaaGreatDoor
