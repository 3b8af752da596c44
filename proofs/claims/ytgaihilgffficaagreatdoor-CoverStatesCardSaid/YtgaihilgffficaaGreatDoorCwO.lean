/- CoverStates, part 32 -/
import Derived.Test.YtgaihilgffficaaGreatDoorCwJ
set_option linter.all false
set_option maxHeartbeats 4000000
namespace Go.Proofs.YtgaihilgffficaaGreatDoor.Ev
open Go
open Classical
structure dC where
 kind : Int
 n : Int
 site : Int
 deriving Inhabited
structure lQ where
 name : List Nat
 v : dC
 deriving Inhabited
def dd (x : dC) : List PV := [.int .i64 x.kind, .int .i64 x.n, .int .i64 x.site]
def gf (x : lQ) : List PV := .str x.name :: dd x.v
def ES (t : List Nat) : dC := if t = gZ then ⟨1, 0, 0⟩ else ⟨2, 0, 0⟩
noncomputable def dZ (l : List lQ) (nm : List Nat) : Nat := (db (fun x : lQ => x.name = nm) l).toNat
noncomputable def qG (l : List dN) (c m : List Nat) : Int := db (fun f : dN => f.cls = c ∧ f.name = m) l
noncomputable def ET (u : aK) (c m : List Nat) : Int := match cb u.cl c m with
 | some (d, s) => if s.static = true then -1 else qG u.fns d m
 | none => -1
theorem eX {n : Int} {K : PV → Prop} (k : K (.agg (dd ⟨1, n, 0⟩))) : PF Tryz.prog X0 Mx 149 [.int .i64 n] K := by
 refine Pf wc fun hnt => ?_
 repeat' (first | refine Qa ?_ | intro hc)
 exact ⟨Or.inr rfl, ⟨rfl, trivial⟩, _, _, rfl, (.refl _), k⟩
theorem ur {t : List Nat} {K : PV → Prop} (k : K (.agg (dd (ES t)))) : PF Tryz.prog X0 Mx 145 [.str t] K := by
 refine Pf Cy fun hnt => ?_
 unfold ES at k
 repeat' (first | refine Qa ?_ | (refine Ba ?_ ?_ <;> try exact Za) | refine aq (ao (eX ?_)) | intro hc)
 ·rw [if_pos (by assumption)] at k
  exact ⟨Or.inr rfl, ⟨rfl, trivial⟩, _, _, rfl, (.refl _), k⟩
 ·rw [if_neg (by assumption)] at k
  exact ⟨Or.inr rfl, ⟨rfl, trivial⟩, _, _, rfl, (.refl _), k⟩
theorem CP {c : List Nat} {l : List lQ} {nm : List Nat} {K : PV → Prop} (k : K (.int .i64 (dZ l nm : Nat))) : PF Tryz.prog X0 Mx 146 [.agg [.str c, pL 4 gf l], .str nm] K := by
 refine Pf Cz fun hnt => ?_
 unfold dZ at k
 repeat' (first | refine Qa ?_ | (refine Ba ?_ ?_ <;> try exact Za) | intro hc)
 refine aJ (fun j : Nat => [(1, .str nm), (2, .ptr 2 _ 0), (5, .int .i64 j)]) (fun _ => [(2, some _, .cells [.str c, pL 4 gf l])]) (fun j => j ≤ l.length ∧ ∀ i, i < j → ¬ (el l i).name = nm) (fun j => l.length - j) 0 ⟨Nat.zero_le _, fh⟩ .su .su ?_
 rintro j ⟨hj, hb⟩
 repeat' (first | refine Qa ?_ | (refine Ba ?_ ?_ <;> try exact Za) | intro hc)
 ·rw [fK (p := (fun x : lQ => x.name = nm)) (j := j) (by omega) (by assumption) hb] at k
  exact E1 k
 ·refine ⟨j + 1, by dsimp only; omega, ⟨om, fun i hi => ?_⟩, .su, .su⟩
  by_cases q : i = j
  ·subst q; assumption
  ·exact hb i om
 ·rw [fL (p := (fun x : lQ => x.name = nm)) fun i hi => hb i (by omega)] at k
  exact E1 k
theorem Ax {a b : dC} {K : PV → Prop} (k : ∀ n, K (.int .i64 n)) : PF Tryz.prog X0 Mx 150 [.agg (dd a), .agg (dd b)] K := by
 refine Pf As fun hnt => ?_
 repeat' (first | refine Qa ?_ | (refine Ba ?_ ?_ <;> try exact Za) | intro hc)
 all_goals first | (have k2 := k 1; exact E1 k2) | (have k2 := k 0; exact E1 k2)
theorem Fa {p a b : Int} {K : PV → Prop} (k : ∀ n e, K (.bO [.int .i64 n, .int .i64 e])) : PF Tryz.prog X0 Mx 151 [.int .i64 p, .int .i64 a, .int .i64 b] K := by
 refine Pf E5 fun hnt => ?_
 repeat' (first | refine Qa ?_ | (refine Ba ?_ ?_ <;> try exact Za) | (refine uu (fun n => ?_)) | intro hc)
 all_goals first | (have k2 := k 1 0; exact E1 k2) | (have k2 := k 0 0; exact E1 k2) | (have k2 := k 0 12; exact E1 k2) | (have k2 := k n 0; exact E1 k2)
theorem CQ {u : aK} {c m : List Nat} {K : PV → Prop} (k : K (.int .i64 (qG u.fns c m))) : PF Tryz.prog X0 Mx 205 [.agg (bQ u), .str c, .str m] K := by
 refine Pf CE fun hnt => ?_
 unfold qG at k
 repeat' (first | refine Qa ?_ | (refine Ba ?_ ?_ <;> try exact Za) | intro hc)
 refine aJ (fun j : Nat => [(1, .str c), (2, .str m), (3, .ptr 3 _ 0), (7, .int .i64 j)]) (fun _ => [(3, some _, .cells (bQ u))]) (fun j => j ≤ u.fns.length ∧ ∀ i, i < j → ¬ ((el u.fns i).cls = c ∧ (el u.fns i).name = m)) (fun j => u.fns.length - j) 0 ⟨Nat.zero_le _, fh⟩ .su .su ?_
 rintro j ⟨hj, hb⟩
 repeat' (first | refine Qa ?_ | (refine Ba ?_ ?_ <;> try exact Za) | intro hc)
 ·rw [fK (p := (fun f : dN => f.cls = c ∧ f.name = m)) (j := j) (by omega) ⟨by assumption, by assumption⟩ hb] at k
  exact E1 k
 ·refine ⟨j + 1, by dsimp only; omega, ⟨om, fun i hi => ?_⟩, .su, .su⟩
  by_cases q : i = j
  ·subst q; exact fun q => absurd q.2 am
  ·exact hb i om
 ·refine ⟨j + 1, by dsimp only; omega, ⟨om, fun i hi => ?_⟩, .su, .su⟩
  by_cases q : i = j
  ·subst q; exact fun q => absurd q.1 am
  ·exact hb i om
 ·rw [fL (p := (fun f : dN => f.cls = c ∧ f.name = m)) fun i hi => hb i (by omega)] at k
  exact E1 k
theorem ox {u : aK} {c m : List Nat} {K : PV → Prop} (k : K (.int .i64 (qG u.fns c m))) : PF Tryz.prog X0 Mx 147 [.agg (bQ u), .str c, .str m] K := by
 refine Pf CA fun hnt => ?_
 repeat' (first | refine Qa ?_ | refine aq (ao (CQ ?_)) | intro hc)
 exact E1 k
theorem uv {u : aK} {c m : List Nat} {K : PV → Prop} (ct : u.cl.length ≤ 64) (k : K (.int .i64 (ET u c m))) : PF Tryz.prog X0 Mx 148 [.agg (bQ u), .str c, .str m] K := by
 refine Pf ud fun hnt => ?_
 unfold ET at k
 repeat' (first | refine Qc ?_ | (refine Ba ?_ ?_ <;> try exact Za) | refine aj ?_ | refine ag ?_ | refine bG (us := bh u.cl) ?_ rfl rfl ⟨by show 1 ≤ 3; decide, rfl⟩ | (refine aq (ao (kJ ct (fun d s hL => ?_) fun hL => ?_))) | refine ay ?_ | refine aq (ao (ox ?_)) | intro hc)
 all_goals rw [hL] at k
 all_goals try dsimp only at k
 all_goals first | (rw [if_pos (by assumption)] at k; exact E1 k) | (rw [if_neg (ff (by assumption))] at k; exact E1 k) | exact E1 k
theorem CR {u : aK} {f a : Nat} {K : PV → Prop} (hf : f < u.fns.length) (qW : u.fns.length ≤ 256) (hc : ∀ i, i < u.fns.length → (el u.fns i).code.length ≤ 1024) (ha : a < (el u.fns f).code.length) (k : K (.int .i64 ((bH (u.fns.take f) + eP ((el u.fns f).code.take a) : Nat) : Int))) : PF Tryz.prog X0 Mx 153 [.agg (bQ u), .int .i64 f, .int .i64 a] K := by
 refine Pf CB fun hnt => ?_
 repeat' (first | refine Qb ?_ | (refine ai ?_; intro hl) | (refine aj ?_; intro b) | (refine Ba ?_ ?_ <;> intro hc <;> try exact Zb) | refine pb ?_)
 refine aJ (fun j : Nat => [(1, .int .i64 f), (2, .int .i64 a), (3, .ptr 3 _ 0), (7, .int .i64 (bH (u.fns.take j) : Nat)), (8, .int .i64 j)]) (fun _ => [(3, some _, .cells (bQ u))]) (fun j => j ≤ f ∧ bH (u.fns.take j) ≤ 1024 * j) (fun j => f - j) 0 ⟨Nat.zero_le _, Nat.zero_le _⟩ .su .su ?_
 rintro j ⟨hj, hsn⟩
 have hcj := hc j om
 repeat' (first | refine Qb ?_ | (refine ai ?_; intro hl) | (refine aj ?_; intro b) | (refine Ba ?_ ?_ <;> intro hc <;> try exact Zb) | refine pb ?_)
 refine aJ (fun m : Nat => [(1, .int .i64 f), (2, .int .i64 a), (3, .ptr 3 _ 0), (7, .int .i64 ((bH (u.fns.take j) + eP ((el u.fns j).code.take m) : Nat) : Int)), (8, .int .i64 j), (9, .int .i64 m)]) (fun _ => [(3, some _, .cells (bQ u))]) (fun m => m ≤ (el u.fns j).code.length ∧ (j = f → m ≤ a)) (fun m => (el u.fns j).code.length - m) 0 ⟨Nat.zero_le _, fun _ => Nat.zero_le _⟩ .su .su ?_
 rintro m ⟨hm, hma⟩
 have hcn := yg (l := (el u.fns j).code) (j := m)
 by_cases hlt : m < (el u.fns j).code.length
 ·have hcs := j8 hlt
  repeat' (first | refine Qb ?_ | (refine ai ?_; intro hl) | (refine aj ?_; intro b) | (refine Ba ?_ ?_ <;> intro hc <;> try exact Zb) | refine pb ?_)
  ·obtain rfl : j = f := by omega
   obtain rfl : m = a := by omega
   exact E1 k
  all_goals first
   | (rw [if_pos (by assumption)] at hcs
      rw [show ((bH (u.fns.take j) + eP ((el u.fns j).code.take m) : Nat) : Int) + 1 = ((bH (u.fns.take j) + eP ((el u.fns j).code.take (m + 1)) : Nat) : Int) by omega]
      exact ⟨m + 1, by dsimp only; omega, ⟨om, fun q => by omega⟩, .su, .su⟩)
   | (rw [if_neg (by assumption)] at hcs
      rw [show ((bH (u.fns.take j) + eP ((el u.fns j).code.take m) : Nat) : Int) = ((bH (u.fns.take j) + eP ((el u.fns j).code.take (m + 1)) : Nat) : Int) by omega]
      exact ⟨m + 1, by dsimp only; omega, ⟨om, fun q => by omega⟩, .su, .su⟩)
 ·have hml : m = (el u.fns j).code.length := by omega
  have hjf : j < f := by
   rcases Nat.lt_or_ge j f with q | q
   ·exact q
   ·have : j = f := by omega
    subst this
    omega
  have hs := iR (l := u.fns) (j := j) om
  rw [hml, List.take_length] at hcn ⊢
  repeat' (first | refine Qb ?_ | (refine ai ?_; intro hl) | (refine aj ?_; intro b) | (refine Ba ?_ ?_ <;> intro hc <;> try exact Zb) | refine pb ?_)
  rw [show ((bH (u.fns.take j) + eP (el u.fns j).code : Nat) : Int) = ((bH (u.fns.take (j + 1)) : Nat) : Int) by omega]
  exact ⟨j + 1, by dsimp only; omega, ⟨om, om⟩, .su, .su⟩
structure vL where
 fn : Int
 at_ : Int
 no : Int
 call : Int
 bg : List dC
 lS : Option Nat
 wI : dC
 deriving Inhabited
structure nW where
 cls : List Nat
 bd : List lQ
 zK : Option Nat
 deriving Inhabited
structure uw where
 fn : Int
 ins : Int
 fr : Int
 call : Int
 bg : List dC
 deriving Inhabited
structure DM where
 i0 : Nat
 fe : List Int
 bV : Option Nat
 heap : List nW
 iK : Option Nat
 aD : List vL
 n : Int
 end_ : Int
 bp : Option Nat
 bo : List uw
def fU (k : Nat) (x : vL) : List PV := .int .i64 x.fn :: .int .i64 x.at_ :: .int .i64 x.no :: .int .i64 x.call :: .own (2 * k + 1010) x.lS x.bg.length 3 :: dd x.wI
def PA (x : vL) : List PV := .int .i64 x.fn :: .int .i64 x.at_ :: .int .i64 x.no :: .int .i64 x.call :: pL 3 dd x.bg :: dd x.wI
def Fb (k : Nat) (x : nW) : List PV := [.str x.cls, .own (2 * k + 1011) x.zK x.bd.length 4]
def PE (x : nW) : List PV := [.str x.cls, pL 4 gf x.bd]
def nA (x : uw) : List PV := [.int .i64 x.fn, .int .i64 x.ins, .int .i64 x.fr, .int .i64 x.call, pL 3 dd x.bg]
def rM (u : aK) (m : DM) : List PV := [pL 4 ia u.cl, pL 7 lA u.fns, .int .i64 u.main, pL 1 pI m.fe, .own 1001 m.bV m.heap.length 2, .own 1002 m.iK m.aD.length 8, .int .i64 m.n, .int .i64 m.end_, .own 1003 m.bp m.bo.length 5]
def Rk (u : aK) (m : DM) : List PV := [pL 4 ia u.cl, pL 7 lA u.fns, .int .i64 u.main, pL 1 pI m.fe, pL 2 PE m.heap, pL 8 PA m.aD, .int .i64 m.n, .int .i64 m.end_, pL 5 nA m.bo]
theorem aV {p q : Nat} {y : Option Nat × PB} {S : aX} {x : Option (Option Nat × PB)} (hq : q ≠ p) (h : aI S p = x) : aI ((q, y) :: S) p = x := by rw [aw, if_neg hq]; exact h
structure MC (u : aK) (m : DM) (S : aX) : Prop where
 Ay : aI S 1000 = some (some m.i0, .cells (rM u m))
 hp : aI S 1001 = some (m.bV, .arr 2 m.heap.length fun i => Fb i (el m.heap i))
 fp : aI S 1002 = some (m.iK, .arr 8 m.aD.length fun i => fU i (el m.aD i))
 ob : aI S 1003 = some (m.bp, aL 5 nA m.bo)
 fr : ∀ k, k < m.aD.length → aI S (2 * k + 1010) = some ((el m.aD k).lS, aL 3 dd (el m.aD k).bg)
 os : ∀ k, k < m.heap.length → aI S (2 * k + 1011) = some ((el m.heap k).zK, aL 4 gf (el m.heap k).bd)
structure MS (u : aK) (m : DM) (S : aX) : Prop where
 low : ig S
 mc : MC u m S
theorem MC.same {u : aK} {m : DM} {S S' : aX} (h : MC u m S) (e : ∀ p, ¬ p < 1000 → aI S' p = aI S p) : MC u m S' :=
 ⟨(e _ om).trans h.Ay, (e _ om).trans h.hp, (e _ om).trans h.fp, (e _ om).trans h.ob, fun k hk => (e _ om).trans (h.fr k hk), fun k hk => (e _ om).trans (h.os k hk)⟩
theorem MC.cons {u : aK} {m : DM} {S : aX} (h : MC u m S) {p : Nat} {x : Option Nat × PB} (hp : p < 1000) : MC u m ((p, x) :: S) := h.same fun q hq => by rw [aw, if_neg (by omega)]
theorem MC.hi {u : aK} {m : DM} {S : aX} (h : MC u m S) {n : Nat} (h0 : ig (S.drop n)) : MS u m (JN n S) := ⟨pG h0, h.same fun p hp => ux p hp⟩
theorem Lk {p : Prop} (h : p := by (repeat (refine aV (by omega) ?_)); assumption) : p := h
theorem Mk {p q : Prop} (m : q) (h : q → p := by intro m; (repeat (refine MC.cons ?_ (by decide))); exact m) : p := h m
def c7 (S : aX) : Prop := ∃ n, ig (S.drop n)
theorem ig.t {S : aX} (h : ig S) : c7 S := ⟨0, h⟩
theorem c7.cons {S : aX} {x : Nat × Option Nat × PB} (h : c7 S) : c7 (x :: S) := by
 obtain ⟨n, h⟩ := h
 exact ⟨n + 1, h⟩
theorem kO {u : aK} {f : Nat} {args : List PV} {S : aX} {K : PV → DM → Prop} (w : lP Tryz.prog X0 Mx f args S fun v S1 => ∃ m, c7 S1 ∧ MC u m S1 ∧ K v m) : lP Tryz.prog X0 Mx f args S fun v S2 => ∃ m, MS u m S2 ∧ K v m :=
 uy (w.mono fun v S1 ⟨m, ⟨n, h0⟩, h1, hk⟩ => ⟨[], fun p => p, JN n S1, v, PH (pG h0) fun p hp id d e _ => ⟨d, by rw [ux p hp] at e; exact e, .refl _⟩, .refl _, m, h1.hi h0, hk⟩)
theorem gV {u : aK} {m : DM} (n : Nat) {f : Nat} {args : List PV} {S : aX} {K : PV → aX → Prop} {K0 : PV → DM → Prop} (hm : MC u m S) (h0 : ig (S.drop n)) (w : ∀ S0, MS u m S0 → lP Tryz.prog X0 Mx f args S0 fun v S2 => ∃ m, MS u m S2 ∧ K0 v m) (hk : ∀ v m' S1, MS u m' S1 → K0 v m' → K v (Fc n S ++ S1)) : lP Tryz.prog X0 Mx f args S K :=
 M8 n h0 ((w _ (hm.hi h0)).mono fun v S2 ⟨m', h1, h2⟩ => ⟨h1.low, (⟨m', h1, h2⟩ : ∃ m', MS u m' S2 ∧ K0 v m')⟩) fun v S1 ⟨m', h1, h2⟩ => hk v m' S1 h1 h2
theorem eY {u : aK} {m : DM} (Z : aX) {f : Nat} {args args' : List PV} {S : aX} {K : PV → aX → Prop} {K0 : PV → DM → Prop} (hz : c5 Z args args') (hZ : ∀ q x, aI Z q = some x → q < 1000 ∧ aI S q = some x) (hm : MC u m S) (h0 : c7 S) (w : ∀ S0, MS u m S0 → lP Tryz.prog X0 Mx f args' S0 fun v S2 => ∃ m, MS u m S2 ∧ K0 v m) (hk : ∀ v m' S1, MS u m' S1 → K0 v m' → K v S1) : lP Tryz.prog X0 Mx f args S K := by
 obtain ⟨n, h0⟩ := h0
 refine uz (r := fun q => q) (S' := JN n S) hz ⟨fun q x e => (hZ q x e).2, fun p id d e _ => ⟨?_, d, ?_, .refl _⟩, fun p q _ _ _ _ _ _ _ e => e⟩ ((w _ (hm.hi h0)).mono fun v S2 ⟨m', h1, h2⟩ => hk v m' S2 h1 h2)
 ·have hp : ¬ p < 1000 := fun q => by rw [pG h0 p q] at e; cases e
  cases hq : aI Z p with
  | none => rfl
  | some y => exact absurd (hZ p y hq).1 hp
 ·have hp : ¬ p < 1000 := fun q => by rw [pG h0 p q] at e; cases e
  rw [ux p hp] at e; exact e
theorem MC.zf {u : aK} {m : DM} {S : aX} (h : MC u m S) : Zf S (.ptr 1000 m.i0 0) (.fp (Rk u m) 0) := by
 refine .ptr _ _ _ _ _ h.Ay ?_
 refine .cons _ _ _ _ (.refl _) (.cons _ _ _ _ (.refl _) (.cons _ _ _ _ (.refl _) (.cons _ _ _ _ (.refl _) (.cons _ _ _ _ ?_ (.cons _ _ _ _ ?_ (.cons _ _ _ _ (.refl _) (.cons _ _ _ _ (.refl _) (.cons _ _ _ _ ?_ .nil))))))))
 ·refine .own _ _ _ _ _ _ _ h.hp (Nat.le_refl _) fun i hi => ?_
  refine .cons _ _ _ _ (.refl _) (.cons _ _ _ _ ?_ .nil)
  exact .own _ _ _ _ _ _ _ (h.os i hi) (Nat.le_refl _) fun j _ => c5.refl _
 ·refine .own _ _ _ _ _ _ _ h.fp (Nat.le_refl _) fun i hi => ?_
  refine .cons _ _ _ _ (.refl _) (.cons _ _ _ _ (.refl _) (.cons _ _ _ _ (.refl _) (.cons _ _ _ _ (.refl _) (.cons _ _ _ _ ?_ (c5.refl _)))))
  exact .own _ _ _ _ _ _ _ (h.fr i hi) (Nat.le_refl _) fun j _ => c5.refl _
 ·exact .own _ _ _ _ _ _ _ h.ob (Nat.le_refl _) fun j _ => c5.refl _
theorem PI {S : aX} {k : Nat} {o : nW} (h : aI S (2 * k + 1011) = some (o.zK, aL 4 gf o.bd)) : Zf S (.agg (Fb k o)) (.agg (PE o)) :=
 .agg _ _ (.cons _ _ _ _ (.refl _) (.cons _ _ _ _ (.own _ _ _ _ _ _ _ h (Nat.le_refl _) fun j _ => c5.refl _) .nil))
theorem dp {α : Type} [Inhabited α] {l : List α} {k : Nat} {x : α} {i : Nat} (hk : k < l.length) : el (l.set k x) i = if i = k then x else el l i := by
 unfold el
 by_cases q : i = k
 ·subst q
  rw [if_pos rfl, List.getD_eq_getElem?_getD, List.getElem?_set_self hk]; rfl
 ·rw [if_neg q, List.getD_eq_getElem?_getD, List.getElem?_set_ne (fun e => q e.symm), ← List.getD_eq_getElem?_getD]
theorem MC.row {u : aK} {m : DM} {S : aX} (h : MC u m S) {k : Nat} (hk : k < m.aD.length) (f : vL) (hv : f.lS = (el m.aD k).lS) (hl : f.bg = (el m.aD k).bg) : MC u {m with aD := m.aD.set k f} ((1002, m.iK, .arr 8 m.aD.length fun j => if j = k then fU k f else fU j (el m.aD j)) :: S) := by
 refine ⟨?_, ?_, ?_, ?_, fun j hj => ?_, fun j hj => ?_⟩
 ·rw [aw, if_neg (by omega), h.Ay]
  unfold rM
  simp only [List.length_set]
 ·rw [aw, if_neg (by omega), h.hp]
 ·rw [aw, if_pos rfl]
  show some (m.iK, PB.arr 8 m.aD.length _) = some (m.iK, PB.arr 8 (m.aD.set k f).length _)
  rw [List.length_set]
  congr 3
  funext j
  rw [dp hk]
  by_cases q : j = k
  ·subst q; rw [if_pos rfl, if_pos rfl]
  ·rw [if_neg q, if_neg q]
 ·rw [aw, if_neg (by omega), h.ob]
 ·simp only [List.length_set] at hj
  rw [aw, if_neg (by omega), h.fr j hj]
  show _ = some ((el (m.aD.set k f) j).lS, aL 3 dd (el (m.aD.set k f) j).bg)
  rw [dp hk]
  by_cases q : j = k
  ·subst q; rw [if_pos rfl, hv, hl]
  ·rw [if_neg q]
 ·rw [aw, if_neg (by omega), h.os j hj]
theorem Hq {α : Type} [Inhabited α] {e : Nat} {f : α → List PV} {l : List α} {k : Nat} {x : α} (hk : k < l.length) : aL e f (l.set k x) = .arr e l.length fun j => if j = k then f x else f (el l j) := by
 unfold aL
 rw [List.length_set]
 congr 1
 funext j
 rw [dp hk]
 by_cases q : j = k
 ·rw [if_pos q, if_pos q]
 ·rw [if_neg q, if_neg q]
theorem MC.val {u : aK} {m : DM} {S : aX} (h : MC u m S) {k v : Nat} (hk : k < m.aD.length) (hv : v < (el m.aD k).bg.length) (x : dC) : MC u {m with aD := m.aD.set k {el m.aD k with bg := (el m.aD k).bg.set v x}} ((2 * k + 1010, (el m.aD k).lS, .arr 3 (el m.aD k).bg.length fun j => if j = v then dd x else dd (el (el m.aD k).bg j)) :: S) := by
 refine ⟨?_, ?_, ?_, ?_, fun j hj => ?_, fun j hj => ?_⟩
 ·rw [aw, if_neg (by omega), h.Ay]
  unfold rM
  simp only [List.length_set]
 ·rw [aw, if_neg (by omega), h.hp]
 ·rw [aw, if_neg (by omega), h.fp]
  show some (m.iK, PB.arr 8 m.aD.length _) = some (m.iK, PB.arr 8 (m.aD.set k _).length _)
  rw [List.length_set]
  congr 3
  funext j
  rw [dp hk]
  by_cases q : j = k
  ·subst q; rw [if_pos rfl]; unfold fU; simp only [List.length_set]
  ·rw [if_neg q]
 ·rw [aw, if_neg (by omega), h.ob]
 ·simp only [List.length_set] at hj
  show _ = some ((el (m.aD.set k _) j).lS, aL 3 dd (el (m.aD.set k _) j).bg)
  rw [dp hk, aw]
  by_cases q : j = k
  ·subst q; rw [if_pos rfl, if_pos rfl, Hq hv]
  ·rw [if_neg (by omega), if_neg q, h.fr j hj]
 ·rw [aw, if_neg (by omega), h.os j hj]
theorem MC.slot {u : aK} {m : DM} {S : aX} (h : MC u m S) {k v : Nat} (hk : k < m.heap.length) (hv : v < (el m.heap k).bd.length) (x : dC) : MC u {m with heap := m.heap.set k {el m.heap k with bd := (el m.heap k).bd.set v {el (el m.heap k).bd v with v := x}}} ((2 * k + 1011, (el m.heap k).zK, .arr 4 (el m.heap k).bd.length fun j => if j = v then gf {el (el m.heap k).bd v with v := x} else gf (el (el m.heap k).bd j)) :: S) := by
 refine ⟨?_, ?_, ?_, ?_, fun j hj => ?_, fun j hj => ?_⟩
 ·rw [aw, if_neg (by omega), h.Ay]
  unfold rM
  simp only [List.length_set]
 ·rw [aw, if_neg (by omega), h.hp]
  show some (m.bV, PB.arr 2 m.heap.length _) = some (m.bV, PB.arr 2 (m.heap.set k _).length _)
  rw [List.length_set]
  congr 3
  funext j
  rw [dp hk]
  by_cases q : j = k
  ·subst q; rw [if_pos rfl]; unfold Fb; simp only [List.length_set]
  ·rw [if_neg q]
 ·rw [aw, if_neg (by omega), h.fp]
 ·rw [aw, if_neg (by omega), h.ob]
 ·rw [aw, if_neg (by omega), h.fr j hj]
 ·simp only [List.length_set] at hj
  show _ = some ((el (m.heap.set k _) j).zK, aL 4 gf (el (m.heap.set k _) j).bd)
  rw [dp hk, aw]
  by_cases q : j = k
  ·subst q; rw [if_pos rfl, if_pos rfl, Hq hv]
  ·rw [if_neg (by omega), if_neg q, h.os j hj]
theorem MC.cell {u : aK} {m m' : DM} {S : aX} (h : MC u m S) (h0 : m'.i0 = m.i0) (h1 : m'.bV = m.bV ∧ m'.heap = m.heap) (h2 : m'.iK = m.iK ∧ m'.aD = m.aD) (h3 : m'.bp = m.bp ∧ m'.bo = m.bo) : MC u m' ((1000, some m.i0, .cells (rM u m')) :: S) := by
 refine ⟨by rw [aw, if_pos rfl, h0], ?_, ?_, ?_, fun j hj => ?_, fun j hj => ?_⟩
 ·rw [aw, if_neg (by omega), h1.1, h1.2, h.hp]
 ·rw [aw, if_neg (by omega), h2.1, h2.2, h.fp]
 ·rw [aw, if_neg (by omega), h3.1, h3.2, h.ob]
 ·rw [h2.2] at hj ⊢
  rw [aw, if_neg (by omega), h.fr j hj]
 ·rw [h1.2] at hj ⊢
  rw [aw, if_neg (by omega), h.os j hj]
theorem MC.pop {u : aK} {m : DM} {S : aX} (h : MC u m S) {n : Nat} (hn : n ≤ m.aD.length) : c8 ((1000, some m.i0, .cells (rM u {m with aD := m.aD.take n})) :: S) ((1002, m.iK, .arr 8 (m.aD.take n).length fun i => fU i (el (m.aD.take n) i)) :: (1000, some m.i0, .cells (rM u {m with aD := m.aD.take n})) :: S) ∧ MC u {m with aD := m.aD.take n} ((1002, m.iK, .arr 8 (m.aD.take n).length fun i => fU i (el (m.aD.take n) i)) :: (1000, some m.i0, .cells (rM u {m with aD := m.aD.take n})) :: S) := by
 have hl : (m.aD.take n).length = n := by rw [List.length_take]; omega
 refine ⟨c8.cons (by rw [aw, if_neg (by omega), h.fp]) (.arr _ _ _ _ _ om fun i hi => c5.of_eq (by rw [fg (by omega)])), by rw [aw, if_neg (by omega), aw, if_pos rfl], ?_, by rw [aw, if_pos rfl], ?_, fun j hj => ?_, fun j hj => ?_⟩
 ·rw [aw, if_neg (by omega), aw, if_neg (by omega), h.hp]
 ·rw [aw, if_neg (by omega), aw, if_neg (by omega), h.ob]
 ·simp only [hl] at hj
  rw [aw, if_neg (by omega), aw, if_neg (by omega), h.fr j (by omega)]
  show _ = some ((el (m.aD.take n) j).lS, aL 3 dd (el (m.aD.take n) j).bg)
  rw [fg hj]
 ·rw [aw, if_neg (by omega), aw, if_neg (by omega), h.os j hj]
def dt (u : aK) (m : DM) (v : Int) : dC := if (el (el m.aD (m.aD.length - 1)).bg v.toNat).kind = 0 then ES (vt (el u.fns (el m.aD (m.aD.length - 1)).fn.toNat) v) else el (el m.aD (m.aD.length - 1)).bg v.toNat
def sw (m : DM) (f : vL) : DM := {m with aD := m.aD.set (m.aD.length - 1) f}
def sr (m : DM) (v : Int) (x : dC) : DM := sw m {el m.aD (m.aD.length - 1) with bg := (el m.aD (m.aD.length - 1)).bg.set v.toNat x, at_ := (el m.aD (m.aD.length - 1)).at_ + 1}
theorem Az {u : aK} {m : DM} {K : PV → Prop} (hn : 0 < m.aD.length) (k : K (.fp (PA (el m.aD (m.aD.length - 1))) 0)) : PF Tryz.prog X0 Mx 45 [.fp (Rk u m) 0] K := by
 refine Pf rR fun hnt => ?_
 repeat' (first | refine pg ?_ | (refine mL (m.aD.length - 1) ?_) | refine aH ?_ | refine aa ?_ | (refine ai ?_; intro hl) | refine aG ?_ | refine pd ?_ | refine sC.mk rfl ?_ | refine gH ?_ | refine pc ?_ | refine pt ?_)
 exact E1 k
theorem cg {u : aK} {m : DM} {S : aX} {K : PV → aX → Prop} (hm : MC u m S) (i : Nat) (hn : 0 < m.aD.length) (hi : m.aD.length - 1 = i) (k : ∀ id, m.iK = some id → K (.ib 1002 id i 0 8) S) : lP Tryz.prog X0 Mx 45 [.ptr 1000 m.i0 0] S K := by
 have hnt : (14 : Nat) ≤ 1000000 := by decide
 refine iz rR (jB _) (by simp) hnt ?_
 subst hi
 have hM := hm.Ay
 have hH := hm.hp
 have hF := hm.fp
 have hO := hm.ob
 repeat' (first | refine Qa ?_ | refine af (vs := rM u m) ?_ rfl Lk rfl | (refine fB (m.aD.length - 1) (fun id eF => ?_)) | intro hc)
 have k2 := k _ eF
 exact ⟨Or.inr rfl, ⟨trivial, trivial⟩, _, rfl, k2⟩
structure nY (u : aK) (m : DM) : Prop where
 ne : 0 < m.aD.length
 f0 : 0 ≤ (el m.aD (m.aD.length - 1)).fn
 f1 : (el m.aD (m.aD.length - 1)).fn < u.fns.length
 vl : (el m.aD (m.aD.length - 1)).bg.length = (el u.fns (el m.aD (m.aD.length - 1)).fn.toNat).vars.length
 a0 : 0 ≤ (el m.aD (m.aD.length - 1)).at_
 a1 : (el m.aD (m.aD.length - 1)).at_ < (el u.fns (el m.aD (m.aD.length - 1)).fn.toNat).code.length
 cl : (el u.fns (el m.aD (m.aD.length - 1)).fn.toNat).code.length ≤ 1024
theorem cc {u : aK} {m : DM} {v : Int} {K : PV → Prop} (ht : nY u m) (hv : 0 ≤ v ∧ v < (el m.aD (m.aD.length - 1)).bg.length) (k : K (.agg (dd (dt u m v)))) : PF Tryz.prog X0 Mx 90 [.fp (Rk u m) 0, .int .i64 v] K := by
 refine Pf yl fun hnt => ?_
 have hn := ht.ne
 have h0 := ht.f0
 have h1 := ht.f1
 have h2 := ht.vl
 unfold dt vt at k
 repeat' (first | refine Qb ?_ | (refine aj ?_; intro b) | (refine Ba ?_ ?_ <;> intro hc <;> try exact Zb) | refine aG ?_ | refine pd ?_ | refine aq (ao (Az hn ?_)) | refine dW (aM (ur ?_)) | refine cH ?_)
 ·rw [if_pos (by assumption)] at k
  exact ⟨Or.inr rfl, ⟨rfl, trivial⟩, _, _, rfl, (.refl _), k⟩
 ·rw [if_neg (by assumption)] at k
  exact ⟨Or.inr rfl, ⟨rfl, trivial⟩, _, _, rfl, (.refl _), k⟩
theorem MC.PJ {u : aK} {m : DM} {S : aX} (h : MC u m S) (hn : 0 < m.aD.length) {v : Int} (hv : v.toNat < (el m.aD (m.aD.length - 1)).bg.length) (x : dC) : MC u (sr m v x) ((1002, m.iK, .arr 8 m.aD.length fun j => if j = m.aD.length - 1 then fU (m.aD.length - 1) {el m.aD (m.aD.length - 1) with at_ := (el m.aD (m.aD.length - 1)).at_ + 1} else fU j (el m.aD j)) :: (2 * (m.aD.length - 1) + 1010, (el m.aD (m.aD.length - 1)).lS, .arr 3 (el m.aD (m.aD.length - 1)).bg.length fun j => if j = v.toNat then dd x else dd (el (el m.aD (m.aD.length - 1)).bg j)) :: S) := by
 have hk : m.aD.length - 1 < m.aD.length := by omega
 have q1 := h.val hk hv x
 have hk2 : m.aD.length - 1 < (m.aD.set (m.aD.length - 1) {el m.aD (m.aD.length - 1) with bg := (el m.aD (m.aD.length - 1)).bg.set v.toNat x}).length := by rw [List.length_set]; exact hk
 have q2 := q1.row hk2 {el m.aD (m.aD.length - 1) with bg := (el m.aD (m.aD.length - 1)).bg.set v.toNat x, at_ := (el m.aD (m.aD.length - 1)).at_ + 1} (by rw [dp hk, if_pos rfl]) (by rw [dp hk, if_pos rfl])
 simp only [List.length_set, List.set_set] at q2
 have e : (fun j => if j = m.aD.length - 1 then fU (m.aD.length - 1) {el m.aD (m.aD.length - 1) with bg := (el m.aD (m.aD.length - 1)).bg.set v.toNat x, at_ := (el m.aD (m.aD.length - 1)).at_ + 1} else fU j (el (m.aD.set (m.aD.length - 1) {el m.aD (m.aD.length - 1) with bg := (el m.aD (m.aD.length - 1)).bg.set v.toNat x}) j)) = fun j => if j = m.aD.length - 1 then fU (m.aD.length - 1) {el m.aD (m.aD.length - 1) with at_ := (el m.aD (m.aD.length - 1)).at_ + 1} else fU j (el m.aD j) := by
  funext j
  by_cases q : j = m.aD.length - 1
  ·rw [if_pos q, if_pos q]; unfold fU; simp only [List.length_set]
  ·rw [if_neg q, if_neg q, dp hk, if_neg q]
 rw [e] at q2
 exact q2
theorem cY {u : aK} {m : DM} {S : aX} {v : Int} {x : dC} (hm : MS u m S) (ht : nY u m) (hv : 0 ≤ v ∧ v < (el m.aD (m.aD.length - 1)).bg.length) : lP Tryz.prog X0 Mx 95 [.ptr 1000 m.i0 0, .int .i64 v, .agg (dd x)] S fun _ S2 => ∃ m2, MS u m2 S2 ∧ m2 = sr m v x := by
 have hnt : (23 : Nat) ≤ 1000000 := by decide
 refine kO (iz Ap (jB _) (by simp) hnt ?_)
 have hn := ht.ne
 have ha0 := ht.a0
 have ha1 := ht.a1
 have ha2 := ht.cl
 have hM := hm.mc.Ay
 have hH := hm.mc.hp
 have hF := hm.mc.fp
 have hO := hm.mc.ob
 have hT := hm.mc.fr (m.aD.length - 1) om
 repeat' (first | refine Qb ?_ | refine aT (rows := fun i => fU i (el m.aD i)) ?_ rfl Lk rfl om | (refine fB (v).toNat (fun id2 eV => ?_); first | (rw [eV] at hT; have eV0 := eV) | (obtain rfl := Option.some.inj (eV0.symm.trans eV))) | (refine aj ?_; intro b) | refine aG ?_ | refine pd ?_ | (refine aq (cg (u := u) (Mk hm.mc) (m.aD.length - 1) hn rfl (fun id eF => ?_)); first | (rw [eF] at hF; have eF0 := eF) | (obtain rfl := Option.some.inj (eF0.symm.trans eF))) | refine c9 (rows := fun j => dd (el (el m.aD (m.aD.length - 1)).bg j)) ?_ rfl rfl Lk rfl rfl | refine c9 (rows := fun i => fU i (el m.aD i)) ?_ rfl rfl Lk rfl rfl | refine cH ?_)
 have q := MC.PJ (hm.mc.cons (p := 5) (x := (some b, .cells (dd x))) dc) hn (v := v) om x
 rw [eF, eV] at q
 exact ⟨Or.inl rfl, trivial, _, rfl, _, (by (repeat (refine c7.cons ?_)); exact hm.low.t), q, rfl⟩
def J7 (u : aK) (m : DM) (x : bJ) (r : Int) (m2 : DM) : Prop := ((dt u m x.a).kind ≠ 3 ∧ r = 3 ∧ m2 = m) ∨ ((dt u m x.a).kind = 3 ∧ r = 0 ∧ ((x.op = 7 ∧ m2 = sr m x.dst (el (el m.heap (dt u m x.a).n.toNat).bd (dZ (el m.heap (dt u m x.a).n.toNat).bd x.name)).v) ∨
 (x.op ≠ 7 ∧ m2 = sw {m with heap := m.heap.set (dt u m x.a).n.toNat {el m.heap (dt u m x.a).n.toNat with bd := (el m.heap (dt u m x.a).n.toNat).bd.set (dZ (el m.heap (dt u m x.a).n.toNat).bd x.name) {el (el m.heap (dt u m x.a).n.toNat).bd (dZ (el m.heap (dt u m x.a).n.toNat).bd x.name) with v := dt u m x.b}}} {el m.aD (m.aD.length - 1) with at_ := (el m.aD (m.aD.length - 1)).at_ + 1})))
theorem uA {u : aK} {m : DM} {S : aX} {x : bJ} (hm : MS u m S) (ht : nY u m) (ha : 0 ≤ x.a ∧ x.a < (el m.aD (m.aD.length - 1)).bg.length) (hd : x.op = 7 → 0 ≤ x.dst ∧ x.dst < (el m.aD (m.aD.length - 1)).bg.length) (hb : x.op ≠ 7 → 0 ≤ x.b ∧ x.b < (el m.aD (m.aD.length - 1)).bg.length) (hr : (dt u m x.a).kind = 3 → 0 ≤ (dt u m x.a).n ∧ (dt u m x.a).n < m.heap.length ∧ dZ (el m.heap (dt u m x.a).n.toNat).bd x.name < (el m.heap (dt u m x.a).n.toNat).bd.length) : lP Tryz.prog X0 Mx 91 [.ptr 1000 m.i0 0, .agg (fw x)] S fun v S2 => ∃ m2, MS u m2 S2 ∧ ∃ r, v = .int .i64 r ∧ J7 u m x r m2 := by
 have hnt : (69 : Nat) ≤ 1000000 := by decide
 refine kO (iz ua (jB _) (by simp) hnt ?_)
 have hn := ht.ne
 have ha0 := ht.a0
 have ha1 := ht.a1
 have ha2 := ht.cl
 have hM := hm.mc.Ay
 have hH := hm.mc.hp
 have hF := hm.mc.fp
 have hO := hm.mc.ob
 repeat' (first | refine Qb ?_ | refine af (vs := rM u m) ?_ rfl Lk rfl | refine aT (rows := fun i => fU i (el m.aD i)) ?_ rfl Lk rfl om | (refine aj ?_; intro b) | (refine Ba ?_ ?_ <;> intro hc <;> try exact Zb) | refine aG ?_ | refine pd ?_ | (refine aq (ij (.cons _ _ _ _ (MC.zf (u := u) (Mk hm.mc)) (.cons _ _ _ _ (.refl _) .nil)) (cc ht ha ⟨rfl, ?_⟩))) | refine cH ?_)
 rotate_left
 ·exact ⟨Or.inr rfl, ⟨trivial, trivial⟩, _, rfl, _, (by (repeat (refine c7.cons ?_)); exact hm.low.t), (Mk hm.mc), 3, rfl, Or.inl ⟨am, rfl, rfl⟩⟩
 have hk3 : (dt u m x.a).kind = 3 := by assumption
 obtain ⟨r1, r2, r3⟩ := hr hk3
 generalize hNN : (dt u m x.a).n.toNat = N at *
 have hN : (dt u m x.a).n = (N : Int) := by omega
 have hNl : N < m.heap.length := by omega
 have hS := hm.mc.os N hNl
 generalize hSl : dZ (el m.heap N).bd x.name = q at *
 repeat' (first | refine Qb ?_ | refine af (vs := rM u m) ?_ rfl Lk rfl | refine aT (rows := fun i => fU i (el m.aD i)) ?_ rfl Lk rfl om | (refine fB (N) (fun id2 eH => ?_); first | (rw [eH] at hH; have eH0 := eH) | (obtain rfl := Option.some.inj (eH0.symm.trans eH))) | (refine fB (q) (fun id3 eS => ?_); first | (rw [eS] at hS; have eS0 := eS) | (obtain rfl := Option.some.inj (eS0.symm.trans eS))) | refine aT (rows := fun i => Fb i (el m.heap i)) ?_ rfl Lk rfl om | refine Fe (rows := fun i => Fb i (el m.heap i)) ?_ rfl Lk om | (refine dW (il (.cons _ _ _ _ (PI (k := N) (o := el m.heap N) Lk) (.cons _ _ _ _ (.refl _) .nil)) (CP ⟨rfl, ?_⟩))) | refine wQ (rows := fun j => gf (el (el m.heap N).bd j)) (us := dd _) ?_ rfl Lk ⟨by show 1 + 3 ≤ 4; decide, rfl⟩ om | (refine aj ?_; intro b) | (refine Ba ?_ ?_ <;> intro hc <;> try exact Zb) | refine aG ?_ | refine pd ?_ | (refine aq (gV 3 (u := u) (Mk hm.mc) hm.low (fun S0 h0 => cY h0 ht (hd am)) (fun v m' S1 h1 h2 => ?_))) | (refine dW (il (.cons _ _ _ _ (MC.zf (u := u) (Mk hm.mc)) (.cons _ _ _ _ (.refl _) .nil)) (cc ht (hb am) ⟨rfl, ?_⟩))) | refine cH ?_)
 ·exact ⟨Or.inr rfl, ⟨trivial, trivial⟩, _, rfl, m', (by (repeat (refine c7.cons ?_)); exact h1.low.t), (by (repeat (refine MC.cons ?_ dc)); exact h1.mc), 0, rfl, by unfold J7; rw [hNN, hSl]; exact Or.inr ⟨hk3, rfl, Or.inl ⟨am, h2⟩⟩⟩
 ·repeat' (first | refine Qb ?_ | refine af (vs := rM u m) ?_ rfl Lk rfl | refine aT (rows := fun i => fU i (el m.aD i)) ?_ rfl Lk rfl om | (refine aj ?_; intro b) | (refine Ba ?_ ?_ <;> intro hc <;> try exact Zb) | refine aG ?_ | refine pd ?_ | refine c9 (rows := fun j => gf (el (el m.heap N).bd j)) ?_ rfl rfl Lk rfl rfl | (refine aq (cg (u := u) (m := {m with heap := m.heap.set N {el m.heap N with bd := (el m.heap N).bd.set q {el (el m.heap N).bd q with v := dt u m x.b}}}) (by rw [← eS0]; refine MC.slot ?_ hNl r3 _; (repeat (refine MC.cons ?_ dc)); exact hm.mc) (m.aD.length - 1) hn rfl (fun id eF => ?_)); first | (rw [eF] at hF; have eF0 := eF) | (obtain rfl := Option.some.inj (eF0.symm.trans eF))) | refine c9 (rows := fun i => fU i (el m.aD i)) ?_ rfl rfl Lk rfl rfl | refine cH ?_)
  exact ⟨Or.inr rfl, ⟨trivial, trivial⟩, _, rfl, sw ({m with heap := m.heap.set N {el m.heap N with bd := (el m.heap N).bd.set q {el (el m.heap N).bd q with v := dt u m x.b}}} : DM) {el m.aD (m.aD.length - 1) with at_ := (el m.aD (m.aD.length - 1)).at_ + 1}, (by (repeat (refine c7.cons ?_)); exact hm.low.t), (by rw [← eF0, ← eS0]; refine MC.row (m := {m with heap := m.heap.set N {el m.heap N with bd := (el m.heap N).bd.set q {el (el m.heap N).bd q with v := dt u m x.b}}}) (k := m.aD.length - 1) ?_ (by show _ < m.aD.length; omega) _ rfl rfl; refine MC.slot ?_ hNl r3 _; (repeat (refine MC.cons ?_ dc)); exact hm.mc), 0, rfl, by unfold J7; rw [hNN, hSl]; exact Or.inr ⟨hk3, rfl, Or.inr ⟨am, rfl⟩⟩⟩
def tH (args : List dC) (nv : Nat) : List dC := (List.range nv).map (el args)
theorem iS {args : List dC} {nv : Nat} : (tH args nv).length = nv := by simp [tH]
theorem xQ {args : List dC} {nv i : Nat} (h : i < nv) : el (tH args nv) i = el args i := by
 unfold tH
 rw [cQ (by simpa using h)]
 simp [el, h]
def sx (m : DM) (fn : Int) (args : List dC) (nv : Nat) (lS : Option Nat) : vL := ⟨fn, 0, m.n, (m.bo.length : Int) - 1, tH args nv, lS, default⟩
def pH (m : DM) (f : vL) (iK : Option Nat) : DM := {m with iK := iK, aD := m.aD ++ [f], n := m.n + 1}
theorem B5 {α : Type} [Inhabited α] {l : List α} {i : Nat} (h : l.length ≤ i) : el l i = default := by simp [el, h]
theorem fX {α : Type} [Inhabited α] {l : List α} {x : α} {i : Nat} : el (l ++ [x]) i = if i < l.length then el l i else el [x] (i - l.length) := iw
theorem MC.push {u : aK} {m : DM} {S : aX} (h : MC u m S) (f : vL) (iK : Option Nat) : MC u (pH m f iK) ((1000, some m.i0, .cells (rM u (pH m f iK))) :: (1002, iK, .arr 8 (m.aD.length + 1) fun i => fU i (el (m.aD ++ [f]) i)) :: (2 * m.aD.length + 1010, f.lS, aL 3 dd f.bg) :: S) := by
 refine ⟨by rw [aw, if_pos rfl]; rfl, ?_, ?_, ?_, fun j hj => ?_, fun j hj => ?_⟩
 ·exact aV om (aV om (aV om h.hp))
 ·refine aV om ?_
  rw [aw, if_pos rfl]
  show some (iK, PB.arr 8 _ _) = some (iK, PB.arr 8 (m.aD ++ [f]).length _)
  rw [List.length_append]; rfl
 ·exact aV om (aV om (aV om h.ob))
 ·replace hj : j < (m.aD ++ [f]).length := hj
  rw [List.length_append, List.length_singleton] at hj
  refine aV om (aV om ?_)
  show _ = some ((el (m.aD ++ [f]) j).lS, aL 3 dd (el (m.aD ++ [f]) j).bg)
  rw [fX, aw]
  by_cases q : j = m.aD.length
  ·subst q; rw [if_pos rfl, if_neg (Nat.lt_irrefl _), Nat.sub_self]; rfl
  ·rw [if_neg (by omega), if_pos (by omega), h.fr j (by omega)]
 ·exact aV om (aV om (aV om (h.os j hj)))
theorem jP {u : aK} {m : DM} {S : aX} {fn : Int} {args : List dC} (hm : MS u m S) (hf : 0 ≤ fn ∧ fn < u.fns.length) (hv : (el u.fns fn.toNat).vars.length ≤ 256) (ha : args.length ≤ (el u.fns fn.toNat).vars.length) (hn : 0 ≤ m.n ∧ m.n ≤ 1000000) (hl : m.aD.length ≤ 64) : lP Tryz.prog X0 Mx 44 [.ptr 1000 m.i0 0, .int .i64 fn, pL 3 dd args] S fun _ S2 => ∃ m2, MS u m2 S2 ∧ ∃ lS iK, m2 = pH m (sx m fn args (el u.fns fn.toNat).vars.length lS) iK := by
 have hnt : (63 : Nat) ≤ 1000000 := by decide
 refine uy (iz v7 (jB _) (by simp) hnt ?_)
 have hM := hm.mc.Ay
 have hH := hm.mc.hp
 have hF := hm.mc.fp
 have hO := hm.mc.ob
 repeat' (first | refine Qb ?_ | refine af (vs := rM u m) ?_ rfl Lk rfl | (refine ai ?_; intro hl) | (refine aj ?_; intro b) | (refine Ba ?_ ?_ <;> intro hc <;> try exact Zb) | refine aG ?_ | refine pd ?_ | (refine CS ?_; intro b30) | refine gH ?_ | refine cH ?_ | refine pb ?_)
 refine iY (fun j : Nat => [(0, .ptr 1000 m.i0 0), (2, pL 3 dd args), (6, .ptr 6 b 0), (7, .int .i64 j)]) (fun j => (30, some b30, .arr 3 (el u.fns fn.toNat).vars.length fun i => if i < j then dd (el args i) else dd default) :: (6, some b, .cells [.int .i64 fn, .int .i64 0, .int .i64 m.n, .int .i64 ((m.bo.length : Int) - 1), .own 30 (some b30) (el u.fns fn.toNat).vars.length 3, .int .i64 0, .int .i64 0, .int .i64 0]) :: S) (fun j => j ≤ args.length) (fun j => args.length - j) 0 (Nat.zero_le _) [] (fun p => p) (.c (.c (.c (.c .nil)))) (c8.zs (c8.head rfl (.arr _ _ _ _ _ (Nat.le_refl _) fun i _ => c5.of_eq (by rw [if_neg (Nat.not_lt_zero _)]; rfl)) (c8.head rfl (.refl _) (c8.Ff hm.low dc (c8.Ff hm.low dc (c8.Ff hm.low dc (c8.refl S))))))) ?_
 intro j hj
 repeat' (first | refine Qb ?_ | refine af (vs := rM u m) ?_ rfl Lk rfl | (refine ef (fun id e => ?_); cases e) | (refine ai ?_; intro hl) | (refine aj ?_; intro b) | (refine Ba ?_ ?_ <;> intro hc <;> try exact Zb) | refine aG ?_ | refine pd ?_ | refine c9 ?_ | refine ay (vs := rM u m) ?_ rfl rfl Lk rfl rfl (Nat.le_of_ble_eq_true rfl) | (refine bw ?_; intro bs) | (refine gI (r1 := fun i => fU i (el m.aD i)) (k := m.aD.length) (m := 1) (p := 1002) ?_ rfl rfl (.own _ _ _ _ _ Lk (Nat.le_refl _)) (.own _ _ _ _ _ rfl (Nat.le_refl _)) (fun i hi => by obtain rfl : i = 0 := om; rfl) (by show (_ + 1) * 80 ≤ _; omega) dc; intro fid2 hfid) | refine cH ?_ | refine pb ?_)
 ·refine ⟨j + 1, by dsimp only; omega, om, [], fun p => p, .c (.c (.c (.c .nil))), c8.zs (c8.head rfl (.arr _ _ _ _ _ (Nat.le_refl _) fun i _ => c5.of_eq ?_) (c8.head rfl (.refl _) (c8.Ff hm.low dc (c8.Ff hm.low dc (c8.Ff hm.low dc (c8.refl S))))))⟩
  by_cases q : i = j
  ·subst q
   rw [if_pos rfl, if_pos (Nat.lt_succ_self _), if_neg (Nat.lt_irrefl _)]; rfl
  ·rw [if_neg q]
   by_cases q2 : i < j
   ·rw [if_pos q2, if_pos (by omega)]
   ·rw [if_neg q2, if_neg (by omega)]
 ·have hjl : j = args.length := by omega
  subst hjl
  have hlow := ((hm.low.cons (p := 2 * m.aD.length + 1010) (x := (some b30, aL 3 dd (tH args (el u.fns fn.toNat).vars.length))) om).cons (p := 1002) (x := (fid2, .arr 8 (m.aD.length + 1) fun i => fU i (el (m.aD ++ [(sx m fn args (el u.fns fn.toNat).vars.length (some b30))]) i))) om).cons (p := 1000) (x := (some m.i0, .cells (rM u (pH m (sx m fn args (el u.fns fn.toNat).vars.length (some b30)) fid2)))) om
  refine ⟨Or.inl rfl, trivial, _, rfl, [], _, _, _, J8 (a := 30) (b := 2 * m.aD.length + 1010) dc om hlow (fun p hp hpb id d e hd => ?_) (fun id d e hd => ?_), .refl _, pH m (sx m fn args (el u.fns fn.toNat).vars.length (some b30)) fid2, ⟨hlow, hm.mc.push _ _⟩, some b30, fid2, rfl⟩
  ·rw [aw] at e
   by_cases q0 : 1000 = p
   ·rw [if_pos q0] at e; cases e
    rw [aw, if_pos q0]
    refine ⟨_, rfl, .cells _ _ (c5.of_eq ?_)⟩
    unfold rM pH
    rw [List.length_append]; rfl
   rw [if_neg q0, aw] at e
   by_cases q1 : 1002 = p
   ·rw [if_pos q1] at e; cases e
    rw [aw, if_neg q0, aw, if_pos q1]
    refine ⟨_, rfl, .arr _ _ _ _ _ (Nat.le_refl _) fun i hi => ?_⟩
    unfold lL
    rw [fX]
    by_cases q2 : i < m.aD.length
    ·rw [if_pos q2, if_pos q2]; exact c5.refl _
    ·obtain rfl : i = m.aD.length := by omega
     rw [if_neg q2, if_neg q2, Nat.sub_self]
     refine .cons _ _ _ _ (.refl _) (.cons _ _ _ _ (.refl _) (.cons _ _ _ _ (.refl _) (.cons _ _ _ _ (.refl _) (.cons _ _ _ _ ?_ (c5.refl _)))))
     show Zf [] (.own 30 (some b30) (el u.fns fn.toNat).vars.length 3) (.own _ (some b30) (tH args (el u.fns fn.toNat).vars.length).length 3)
     rw [iS]
     exact .M9 _ _ _ _ _
   rw [if_neg q1, aw, if_neg (by omega)] at e
   exact ⟨d, by repeat (refine aV om ?_)
                exact e, .refl _⟩
  ·rw [aw, if_neg (by omega), aw, if_neg (by omega), aw, if_pos rfl] at e
   cases e
   refine ⟨_, rfl, .arr _ _ _ _ _ (by rw [iS]; exact Nat.le_refl _) fun i hi => c5.of_eq ?_⟩
   rw [iS] at hi
   rw [xQ hi]
   by_cases q : i < args.length
   ·rw [if_pos q]
   ·rw [if_neg q, B5 (by omega)]
end Go.Proofs.YtgaihilgffficaaGreatDoor.Ev
