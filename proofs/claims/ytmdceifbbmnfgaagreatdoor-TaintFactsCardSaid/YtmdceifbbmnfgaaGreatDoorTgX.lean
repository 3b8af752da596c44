/- From the form of the statement to the walk of the law: how a unit and a place are read, what the listed variables give. -/
import Derived.Test.YtmdceifbbmnfgaaGreatDoorTgP
import Derived.Test.YtmdceifbbmnfgaaGreatDoorTgLb
import Derived.Test.YtmdceifbbmnfgaaGreatDoorSyQ
import Derived.Test.YtmdceifbbmnfgaaGreatDoorKn
import Derived.Test.YtmdceifbbmnfgaaGreatDoorZbk
import Derived.ProofKit
import Derived.OpenShut
import Derived.Deep.DeepHandedRow
import Derived.Lib.LaidTab
import Derived.Deep.Slices
import Derived.SizedLaws
set_option linter.unusedVariables false
set_option linter.unusedSimpArgs false
namespace Go.Proofs.YtmdceifbbmnfgaaGreatDoor.Ev
open Go Go.RowKit
def ShPlace : Sh := .row [.int .i64, .int .i64, .row [.int .i64, .str]]
theorem unit_sh : shOf Tryz.prog 20 27 = some (ShUnit, 3) := by kernel_rfl
theorem place_sh : shOf Tryz.prog 20 31 = some (ShPlace, 4) := by kernel_rfl
theorem unit_cnt : Sh.cnt 70 ShUnit ≤ 1000000 := of_decide_eq_true (by kernel_rfl)
theorem place_cnt : Sh.cnt 70 ShPlace ≤ 1 := of_decide_eq_true (by kernel_rfl)
theorem place_cells {h : H} {d : Dt} {cs : List AV} (r : Rp 70 false h ShPlace d cs) : ∃ (f a st : Int) (fd : List Nat), cs = [.int .i64 f, .int .i64 a, .int .i64 st, .str fd] := by
 simp only [ShPlace, Rp, RpL] at r
 obtain ⟨l, _, d1, e1, a1, b1, _, rfl, ⟨f, _, rfl⟩, d2, e2, a2, b2, _, rfl, ⟨g, _, rfl⟩, d3, e3, a3, b3, _, rfl, ⟨l3, _, d4, e4, a4, b4, _, rfl, ⟨st, _, rfl⟩, d5, e5, a5, b5, _, rfl, ⟨fd, _, rfl⟩, _, rfl⟩, _, rfl⟩ := r
 exact ⟨f, g, st, fd, rfl⟩
def cellsIn : AB → List AV
 | .cells l => l
 | _ => []
def isCells : AB → Bool
 | .cells _ => true
 | _ => false
theorem isCells_eq {b : AB} (h : isCells b = true) : b = .cells (cellsIn b) := by
 cases b <;> first | rfl | cases h
def GLs : List (Nat × List AV) := hStart.map fun p => (p.1, cellsIn p.2)
theorem gl_cells : ∀ p ∈ hStart, p.2 = .cells (cellsIn p.2) := by
 have h : (hStart.all fun p => isCells p.2) = true := by kernel_rfl
 intro p hp
 exact isCells_eq (List.all_eq_true.1 h p hp)
theorem gl_eq : ∀ p ∈ hStart, eqOB (some p.2) (some p.2) = true := by
 have h : (hStart.all fun p => eqOB (some p.2) (some p.2)) = true := by kernel_rfl
 intro p hp
 exact List.all_eq_true.1 h p hp
theorem gl_nd : GLs.Pairwise fun a b => a.1 ≠ b.1 := by
 have h : (GLs.map Prod.fst).Nodup := of_decide_eq_true (by kernel_rfl)
 exact List.pairwise_map.1 h
theorem knM_ok : MemoOk Tryz.prog Tryz.prog.globals.size knM :=
 MK_okG start_ok (fun p hp => by
  obtain ⟨x, hx, hc⟩ := mapM_mem start_ok hp
  have h1 := start_lt x hx
  unfold cG at hc
  simp only [Option.map_eq_some_iff] at hc
  obtain ⟨a, _, rfl⟩ := hc
  exact h1) ⟨_, Tryz.func9, by kernel_rfl, by kernel_rfl⟩ (fun w hE => knows_any w hE)
theorem Mx_ok : MemoOk Tryz.prog Tryz.prog.globals.size Mx := orM_ok knM_ok libOk
theorem Read1.agg {w : World} {k k' : Nat} {cs : List Value} {avs : List AV} {L : List En} {R : H → Prop} (r : Read1 w k k' cs avs L R) : Read1 w k k' [.agg cs.toArray] [.agg avs] L R :=
 ⟨r.le, r.ids, r.nodup, r.rp, fun β hβ => ⟨⟨_, _, rfl, ⟨_, rfl, by simpa using (r.vr β hβ).1⟩, rfl⟩, (r.vr β hβ).2⟩⟩
theorem gl_br {w : World} (hE : EnvG G0 w) (β : Bet) : ∀ p ∈ GLs, p.1 < w.heap.size ∧ BR β ⟨p.1, 0, szG p.1, dv⟩ w (.cells p.2) := by
 intro p hp
 obtain ⟨q, hq, rfl⟩ := List.mem_map.1 hp
 obtain ⟨g, hg, hc⟩ := cG_mem G0 hStart start_ok q hq
 obtain ⟨cur, t, ht, hnf, hval⟩ := hE g hg
 unfold cG at hc
 simp only [Option.map_eq_some_iff] at hc
 obtain ⟨avs, h1, rfl⟩ := hc
 have hlen := (cCells_VR (β := β) _ _ h1).length
 have hsz := szG_eq g hg
 have hcs : g.2.length ≤ cur.size := by
  rcases Nat.lt_or_ge cur.size g.2.length with q1 | q1
  ·have q2 := hval cur.size _ (List.getElem?_eq_getElem q1)
   rw [Array.getElem?_eq_none (Nat.le_refl _)] at q2; cases q2
  ·exact q1
 refine ⟨?_, cur, t, ht, ⟨by show szG g.1 ≤ _; omega, by show 0 + avs.length ≤ szG g.1; omega, fun i _ hi => hnf i (by have hi : i < szG g.1 := hi; omega)⟩, fun i v hi => ?_⟩
 ·show g.1 < _
  rcases Nat.lt_or_ge g.1 w.heap.size with hl | hl
  ·exact hl
  ·rw [Array.getElem?_eq_none hl] at ht; cases ht
 ·obtain ⟨u, q1, q2⟩ := (cCells_VR (β := β) _ _ h1).get hi
  exact ⟨u, by have := hval i u q1; simpa using this, q2⟩
theorem law_any {H : Type} {enc : TypeId × Value → H} {held : Bool} {w : World} (hE : EnvG G0 w) {n1 n2 : Nat} {c1 c2 : List Value} {y1 y2 : DataW H × List MemPlace}
  (h1 : DataW.trod enc Tryz.prog w 0 (fun _ => true) held n1 27 c1 = some y1) (f1 : w.noneFrozen y1.2) (h2 : DataW.trod enc Tryz.prog w 0 (fun _ => true) held n2 31 c2 = some y2) (f2 : w.noneFrozen y2.2) :
  Calls Tryz.prog 3 #[.agg c1.toArray, .agg c2.toArray] w fun e w' => e = .returned (.bool true) ∧ Below w.heap.size w w' := by
 have hu := (read_any (B := 70) (enc := enc) (w := w) (held := held) 20 27 ShUnit 3 unit_sh).2
 have hp := (read_any (B := 70) (enc := enc) (w := w) (held := held) 20 31 ShPlace 4 place_sh).2
 have hcnt := unit_cnt
 have hcnt2 := place_cnt
 obtain ⟨d1, a1, k1, L1, ⟨_, hk1⟩, r1⟩ := hu n1 c1 y1 h1 f1 Tryz.prog.globals.size
 obtain ⟨d2, a2, k2, L2, ⟨_, hk2⟩, r2⟩ := hp n2 c2 y2 h2 f2 k1
 have hng := ng_eq
 have r := (r1.agg).append (r2.agg) (R := fun h => Rp 70 false h ShUnit d1 a1 ∧ Rp 70 false h ShPlace d2 a2) (fun h q1 q2 => ⟨q1, q2⟩)
 obtain ⟨h0, β, hn, hwf, hcx, ⟨q1, q2⟩, hv, hr, hgb, hdom, _, hgl⟩ := r.startG (by omega) szG GLs (fun p hp => by
  obtain ⟨q, hq, rfl⟩ := List.mem_map.1 hp
  exact start_lt q hq) gl_nd (fun β p hp => gl_br hE β p hp)
 subst hn
 obtain ⟨f, a, st, fd, rfl⟩ := place_cells q2
 obtain ⟨v, h', hg, rfl⟩ := law_ev (c := top h0.n) (fun id hid => seen_here (Nat.zero_le _) (by unfold big; omega)) hcx (by omega) q1 (fun p hp => by
  have h3 := hgl (p.1, cellsIn p.2) (List.mem_map.2 ⟨p, hp, rfl⟩)
  have h4 := start_lt p hp
  have h5 := r.le
  exact ⟨h3.trans (congrArg some (gl_cells p hp).symm), by omega⟩) gl_eq
 refine (top_of mixed noGoroutines extOk Mx_ok hg hwf hgb hr hdom hv).mono fun e w' ⟨β', val, h1, h2, _, h4⟩ => ?_
 simp only [VR] at h2
 subst h2
 exact ⟨h1, h4⟩
end Go.Proofs.YtmdceifbbmnfgaaGreatDoor.Ev
namespace Go.Proofs.YtmdceifbbmnfgaaGreatDoor
open Go.ChangeShapes Go.WideShapes Go.ChangeAt Go.RowKit Go.Deep
theorem own : ownKnob Tryz.prog.godebug = none := by kernel_rfl
theorem cells_of_lits {H : Type} {enc : TypeId × Value → H} {P : Program} {w : World} {base : Nat} {sp : Nat → Bool} {held : Bool} {fuel : Nat} {t e : TypeId} {n : Nat} {cs : List Value} {zs : List Lit} (pr : Lit → Value) {p : List MemPlace}
  (ht : P.underlying t = some (.array n e)) (he : ∀ (m : Nat) (l : List Value) (y : DataW H × List MemPlace), DataW.trod enc P w base sp held m e l = some y → ∃ z, l = [pr z] ∧ y.1 = .lit z) (hce : P.cellsOf e = 1) (hct : P.cellsOf t = n)
  (h : DataW.trod enc P w base sp held fuel t cs = some (.agg (zs.map fun z => .lit z), p)) : cs = zs.map pr := by
 cases fuel with
 | zero => simp [DataW.trod] at h
 | succ fuel =>
  simp only [DataW.trod, ht, hce, hct, Nat.mul_one] at h
  split at h
  ·rename_i hl
   obtain ⟨xs, hm, hx⟩ := Option.map_eq_some_iff.1 h
   have hxs : xs.map (·.1) = zs.map fun z => (DataW.lit z : DataW H) := by
    have := congrArg Prod.fst hx
    simpa using this
   have hxl : xs.length = n := by simpa using Lib.mapM_length hm
   have hzl : zs.length = n := by
    have := congrArg List.length hxs
    simp at this
    omega
   apply List.ext_getElem?
   intro i
   by_cases hi : i < n
   ·obtain ⟨b, hb, hf⟩ := Lib.mapM_at hm i i (by simp [hi])
    obtain ⟨z, hc, hz⟩ := he _ _ _ hf
    have h1 : cs[i]? = some (pr z) := by
     have := congrArg (·[0]?) hc
     simpa [List.getElem?_take, List.getElem?_drop] using this
    have h2 : (xs.map (·.1))[i]? = some (DataW.lit z : DataW H) := by simp [hb, hz]
    rw [hxs] at h2
    simp only [List.getElem?_map, Option.map_eq_some_iff, DataW.lit.injEq] at h2
    obtain ⟨z', hz', rfl⟩ := h2
    simp [h1, hz']
   ·rw [List.getElem?_eq_none (by omega), List.getElem?_eq_none (by simp; omega)]
  ·cases h
def prL : Lit → Value
 | .string z => .string ⟨z.toArray⟩
 | .int k n => .int k n
 | _ => .bool false
theorem str_lit {H : Type} {enc : TypeId × Value → H} {w : World} {base : Nat} {sp : Nat → Bool} {held : Bool} (m : Nat) (l : List Value) (y : DataW H × List MemPlace) (h : DataW.trod enc Tryz.prog w base sp held m 9 l = some y) : ∃ z, l = [prL z] ∧ y.1 = .lit z := by
 obtain ⟨z, hc, rfl, _⟩ := DataW.trod_string Tryz.underlying9 h
 exact ⟨.string z.data.toList, by rw [hc]; simp [prL], rfl⟩
theorem laid_block {W : World} {n : String} {g : Nat} {cs : Array Value} {ps : List MemPlace} (hg : Tryz.prog.globalNamed n = some g) (hv : W.var? Tryz.prog n = some cs) (hne : 0 < cs.size)
  (hm : ∀ x ∈ MemPlace.row ⟨g, 0, none⟩ cs.size, x ∈ ps) (hp : ∀ b off, MemPlace.cell b off ∈ ps → (∃ c t, W.heap[b]? = some (.cells c t (0, 0))) ∧ ∀ u v, W.cell? ⟨b, off, none⟩ = some (.iface u v) → Value.okWide Tryz.prog W .any 0 u v) :
  ∃ t, W.heap[g]? = some (.cells cs t (0, 0)) := by
 obtain ⟨⟨c, t, hc⟩, _⟩ := hp g 0 (hm _ (by
  unfold MemPlace.row
  rw [List.mem_map]
  exact ⟨0, by simpa using hne, rfl⟩))
 unfold World.var? at hv
 rw [hg, Option.bind_some, hc] at hv
 obtain rfl := Option.some.inj hv
 exact ⟨t, hc⟩
def litsIn : DataW Unit → List Lit
 | .agg l => l.filterMap fun | .lit z => some z | _ => none
 | _ => []
def zForms : List Lit := litsIn Rows.laid_dataflow_ir_forms
def zWords : List Lit := litsIn Rows.laid_dataflow_lex_keywords
theorem env_of {W : World} (h : laidMet Tryz.prog Rows.taintFactsRow.laid W) : Ev.EnvG Ev.G0 W := by
 obtain ⟨ps, h, hnd, hp⟩ := h
 obtain ⟨g1, t1, cs1, fuel1, p1, q1, hg1, ht1, hv1, hd1, h, hps1⟩ := h
 obtain ⟨g0, t0, cs0, fuel0, p0, q0, hg0, ht0, hv0, hd0, h, hps0⟩ := h
 have e0 : g0 = 0 := Option.some.inj (hg0.symm.trans (show Tryz.prog.globalNamed "dataflow/ir.forms" = some 0 by kernel_rfl))
 have e1 : g1 = 1 := Option.some.inj (hg1.symm.trans (show Tryz.prog.globalNamed "dataflow/lex.keywords" = some 1 by kernel_rfl))
 subst e0 e1
 have f0 : t0 = 522 := Option.some.inj (ht0.symm.trans (show (Tryz.prog.globals[0]?).map (·.type) = some 522 by kernel_rfl))
 have f1 : t1 = 522 := Option.some.inj (ht1.symm.trans (show (Tryz.prog.globals[1]?).map (·.type) = some 522 by kernel_rfl))
 subst f0 f1
 have c0 := cells_of_lits (zs := zForms) prL Tryz.underlying522 str_lit (by kernel_rfl) (by kernel_rfl) hd0
 have c1 := cells_of_lits (zs := zWords) prL Tryz.underlying522 str_lit (by kernel_rfl) (by kernel_rfl) hd1
 have d0 : cs0 = (zForms.map prL).toArray := by
  have h2 := congrArg List.toArray c0
  rwa [Array.toArray_toList] at h2
 have d1 : cs1 = (zWords.map prL).toArray := by
  have h2 := congrArg List.toArray c1
  rwa [Array.toArray_toList] at h2
 have b0 := laid_block hg0 hv0 (by rw [d0]; exact of_decide_eq_true (by kernel_rfl)) (fun x hx => by rw [hps1, hps0]; simp [hx]) hp
 have b1 := laid_block hg1 hv1 (by rw [d1]; exact of_decide_eq_true (by kernel_rfl)) (fun x hx => by rw [hps1]; simp [hx]) hp
 have key : ∀ (g : Nat) (l : List Value) (cs : Array Value) (zs : List Lit), cs = (zs.map prL).toArray → l = zs.map prL → (∃ t, W.heap[g]? = some (.cells cs t (0, 0))) → ∃ (cur : Array Value) (t : TypeId × (Nat × Nat)), W.heap[g]? = some (.cells cur t.1 t.2) ∧ (∀ i, i < l.length → (decide (t.2.1 ≤ i) && decide (i < t.2.2)) = false) ∧ ∀ (i : Nat) (v : Value), l[i]? = some v → cur[i]? = some v := by
  rintro g l cs zs rfl rfl ⟨t, ht⟩
  exact ⟨_, (t, (0, 0)), ht, fun i _ => by simp, fun i v hi => by simpa using hi⟩
 intro p hp
 unfold Ev.G0 at hp
 simp only [List.mem_cons, List.not_mem_nil, or_false] at hp
 rcases hp with rfl | rfl
 ·exact key _ _ _ _ d0 (by kernel_rfl) b0
 ·exact key _ _ _ _ d1 (by kernel_rfl) b1
end Go.Proofs.YtmdceifbbmnfgaaGreatDoor