/- CoverStates, part 36 -/
import Derived.Test.YtgaihilgffficaaGreatDoorCtC
set_option linter.all false
set_option maxHeartbeats 4000000
namespace Go.Proofs.YtgaihilgffficaaGreatDoor.Ev
open Go
open Classical
structure Kg (u : aK) (n : Int) (x : rU) : Prop where
 len : x.bo.length ≤ n.toNat
 bo : ∀ o ∈ x.bo, AE u o
theorem Kh {G : aZ} {S0 : aX} {fz : Bool} {x : XV} {q id i off e e' n : Nat} {r : Nat → List PV} (hx : ca G x = some (.ib q id i off e)) (h : aI S0 q = some (some id, .arr e' n r)) : Fh G S0 fz x := by
 unfold Fh
 rw [hx]
 simp only [h]
theorem MC.bo {u : aK} {m : DM} {S : aX} (h : MC u m S) (bp : Option Nat) : MC u (sV m bp) ((1000, some m.i0, .cells (rM u (sV m bp))) :: (1003, bp, aL 5 nA (m.bo ++ [Kd m])) :: S) := by
 refine ⟨by rw [aw, if_pos rfl]; rfl, ?_, ?_, ?_, fun j hj => ?_, fun j hj => ?_⟩
 ·exact aV om (aV om h.hp)
 ·exact aV om (aV om h.fp)
 ·refine aV om ?_
  rw [aw, if_pos rfl]; rfl
 ·exact aV om (aV om (h.fr j hj))
 ·exact aV om (aV om (h.os j hj))
theorem wS {u : aK} {fe : List Int} {n : Int} {K : PV → Prop} (ha : ∀ i, i < u.fns.length → ∀ j, j < (el u.fns i).code.length → (el (el u.fns i).code j).args.length ≤ fZ) (ke : ∀ e, e ≠ 0 → K (.bO [.agg (Kc ⟨0, []⟩), .int .i64 e])) (k : xM u = 0 → ∀ x, Kg u n x → K (.bO [.agg (Kc x), .int .i64 0])) : PF Tryz.prog X0 Mx 13 [.agg (bQ u), pL 1 pI fe, .int .i64 n] K := by
 refine Pf E4 fun hnt => ?_
 repeat' (first | refine pg ?_ | refine af (vs := rM u m) ?_ rfl Lk rfl | refine aT (rows := fun i => fU i (el m.aD i)) ?_ rfl Lk rfl om | (refine Kf (u := u) (fe := fe) (G' := [(2, .int .i64 n), (3, .ptr 3 _ 0), (6, .ptr 6 _ 0), (11, .ptr 1000 _ 0)]) (.c (.c (.c (.cons rfl (.Rn _ _ _ _) .nil)))) rfl ?_) | refine aH ?_ | refine af ?_ | (refine ai ?_; intro hl) | (refine aj ?_; intro b) | (refine aQ ?_ ?_ <;> intro hc <;> try first | contradiction | omega) | refine ag ?_ | refine aF ?_ | refine aG ?_ | refine pd ?_ | refine sC.mk rfl ?_ | (refine aq (ao (rP ha (fun a c => ?_)))) | refine ay ?_ | refine cH ?_ | refine pc ?_ | refine pt ?_ | refine pb ?_)
 all_goals try first
  | (have k2 := ke 3 dc; exact ⟨Or.inr rfl, ⟨rfl, ⟨trivial, trivial⟩⟩, _, _, rfl, (.bO _ _ (.cons _ _ _ _ (.agg _ _ (.cons _ _ _ _ (.refl _) (.cons _ _ _ _ (.aO _ _) .nil))) (.cons _ _ _ _ (.refl _) .nil))), k2⟩)
  | (have k2 := ke 4 dc; exact ⟨Or.inr rfl, ⟨rfl, ⟨trivial, trivial⟩⟩, _, _, rfl, (.bO _ _ (.cons _ _ _ _ (.agg _ _ (.cons _ _ _ _ (.refl _) (.cons _ _ _ _ (.aO _ _) .nil))) (.cons _ _ _ _ (.refl _) .nil))), k2⟩)
  | (have k2 := ke _ am; exact ⟨Or.inr rfl, ⟨rfl, ⟨trivial, trivial⟩⟩, _, _, rfl, (.bO _ _ (.cons _ _ _ _ (.agg _ _ (.cons _ _ _ _ (.refl _) (.cons _ _ _ _ (.aO _ _) .nil))) (.cons _ _ _ _ (.refl _) .nil))), k2⟩)
 have hu : xM u = 0 := by assumption
 have uo := Re hu
 have k := k hu
 repeat' (first | refine pg ?_ | refine af (vs := rM u m) ?_ rfl Lk rfl | refine aT (rows := fun i => fU i (el m.aD i)) ?_ rfl Lk rfl om | refine aH ?_ | refine af ?_ | (refine ai ?_; intro hl) | (refine aj ?_; intro b) | (refine aQ ?_ ?_ <;> intro hc <;> try first | contradiction | omega) | refine ag ?_ | refine aF ?_ | refine aG ?_ | refine pd ?_ | refine sC.mk rfl ?_ | (refine aq (uz (Z := []) (r := fun p => p) (args' := [.ptr 1000 (pJ b fe).i0 0, .int .i64 u.main, pL 3 dd []]) (.cons _ _ _ _ (.refl _) (.cons _ _ _ _ (.refl _) (.cons _ _ _ _ (.aO _ _) .nil))) (c8.refl _).zs (gV 2 (u := u) (m := pJ b fe) (MC.cons (MC.cons D0.mc dc) dc) (D0.low) (fun S0 h0 => jP (args := []) h0 ⟨uo.m0, uo.m1⟩ (uo.at uo.m0 uo.m1).MR (Nat.zero_le _) (by show (0 : Int) ≤ 0 ∧ (0 : Int) ≤ 1000000; omega) (Nat.zero_le _)) (fun v m' S1 h1 h2 => ?_))); obtain ⟨lS, iK, rfl⟩ := h2) | refine cH ?_ | refine pc ?_ | refine pt ?_ | refine pb ?_)
 have hw0 := Ke (fe := fe) (i0 := b) (lS := lS) (iK := iK) uo
 refine iY (fun q : DM × aX => [(2, .int .i64 n), (6, .ptr 6 _ 0), (11, .ptr 1000 b 0)]) (fun q => (6, some _, .cells [.int .i64 0, .aO]) :: q.2) (fun q => MS u q.1 q.2 ∧ q.1.i0 = b ∧ (∀ o ∈ q.1.bo, AE u o) ∧ q.1.bo.length ≤ n.toNat ∧ (q.1.end_ = 0 → WT u q.1 ∧ Bd q.1 (q.1.bo.length + 1))) (fun q => if q.1.end_ = 0 then n.toNat + 1 - q.1.bo.length else 0) (pH (pJ b fe) (sx (pJ b fe) u.main [] (el u.fns u.main.toNat).vars.length lS) iK, S1) ⟨h1, rfl, (fun o ho => by have h9 : o ∈ ([] : List uw) := ho; cases h9), Nat.zero_le _, fun _ => ⟨hw0, ⟨by show fe.length ≤ 1000; omega, Nat.zero_le _, by show (0 : Int) ≤ 0 + 1 ∧ (0 : Int) + 1 ≤ ((0 + 1 : Nat) : Int); omega⟩⟩⟩ [] (fun p => p) (.c (.c (.c .nil))) (c8.zs (c8.head rfl (.refl _) (c8.hd h1.low))) ?_
 rintro ⟨m, S⟩ ⟨hm, hi0, hob, hle, hwt⟩
 simp only at hm hi0 hob hle hwt ⊢
 clear h1 hw0
 subst hi0
 have hM := hm.mc.Ay
 have hH := hm.mc.hp
 have hF := hm.mc.fp
 have hO := hm.mc.ob
 by_cases he : m.end_ = 0
 ·obtain ⟨w, hb⟩ := hwt he
  have hn := w.ne
  have hfr := w.fr (m.aD.length - 1) om
  have hT := hm.mc.fr (m.aD.length - 1) om
  have hv256 := (uo.at hfr.f0 hfr.f1).MR
  have hvl := hfr.vl
  repeat' (first | refine pg ?_ | refine af (vs := rM u m) ?_ rfl Lk rfl | refine aT (rows := fun i => fU i (el m.aD i)) ?_ rfl Lk rfl om | refine ay (vs := rM u m') ?_ rfl rfl Lk rfl rfl (Nat.le_of_ble_eq_true rfl) | refine bG (us := [.int .i64 4, .own 1003 m.bp m.bo.length 5]) ?_ rfl rfl ⟨by show 7 + 2 ≤ 9; decide, rfl⟩ | (refine Nf (u := u) (m := m) ⟨hm.low, hm.mc⟩ (G' := [(2, .int .i64 n), (6, .ptr 6 _ 0), (11, .ptr 1000 m.i0 0)]) (.c (.c (.c .nil))) rfl rfl ?_; have w2 := w.sV bp; have b2 : Bd (sV m bp) (m.bo.length + 1) := ⟨hb.fe, hb.hp, hb.n⟩; have hm2 : MC u (sV m bp) ((1000, some m.i0, .cells (rM u (sV m bp))) :: (1003, bp, aL 5 nA (m.bo ++ [Kd m])) :: S) := MC.bo hm.mc bp; have hl2 : ig ((1000, some m.i0, .cells (rM u (sV m bp))) :: (1003, bp, aL 5 nA (m.bo ++ [Kd m])) :: S) := (hm.low.cons om).cons om) | (refine sC.mk (Kh rfl Lk) ?_) | (refine yF ?_; intro b84) | refine aH ?_ | refine af ?_ | (refine ai ?_; intro hl) | (refine aj ?_; intro b) | (refine aQ ?_ ?_ <;> intro hc <;> try first | contradiction | omega) | refine ag ?_ | refine aF ?_ | refine aG ?_ | refine pd ?_ | refine sC.mk rfl ?_ | (refine aq (cg (u := u) (Mk hm.mc) (m.aD.length - 1) hn rfl (fun id eF => ?_)); first | (rw [eF] at hF; have eF0 := eF) | (obtain rfl := Option.some.inj (eF0.symm.trans eF))) | (refine Ro (n := 0) (r2 := fun j => dd (el (el m.aD (m.aD.length - 1)).bg j)) (fun o84 h84 => ?_) rfl rfl rfl (.own _ _ _ _ _ Lk (Nat.le_refl _)) (fun i hi => rfl) om dc) | (refine bw ?_; intro bs) | (refine gI (r1 := fun i => nA (el m.bo i)) (k := m.bo.length) (m := 1) (p := 1003) ?_ rfl rfl (.own _ _ _ _ _ Lk (Nat.le_refl _)) (.own _ _ _ _ _ rfl (Nat.le_refl _)) (fun i hi => by obtain rfl : i = 0 := om; rfl) (by show (_ + 1) * 56 ≤ _; omega) dc; intro bp hoid) | refine ay (vs := rM u m) ?_ rfl rfl Lk rfl rfl (Nat.le_of_ble_eq_true rfl) | (refine aq (gV 1 (u := u) (m := sV m bp) (hm2.cons dc) hl2 (fun S0 h0 => yE h0 (w2.st uo b2 om)) (fun v m' S1 h1 h2 => ?_)); obtain ⟨r, rfl, h2⟩ := h2; obtain ⟨⟨k1, k2, k3⟩, k4⟩ := GW (k := m.bo.length + 1) h2; have hM2 : aI S1 1000 = some (some m.i0, .cells (rM u m')) := (by have e := h1.mc.Ay; rw [k3] at e; exact e)) | refine ay ?_ | refine cH ?_ | refine pc ?_ | refine pt ?_ | refine pb ?_)
  ·have k2 := k ⟨4, m.bo⟩ ⟨hle, hob⟩
   exact ⟨Or.inr rfl, ⟨rfl, ⟨trivial, trivial⟩⟩, _, _, rfl, (.bO _ _ (.cons _ _ _ _ (.agg _ _ (.cons _ _ _ _ (.refl _) (.cons _ _ _ _ (.own _ _ _ _ _ _ _ Lk (Nat.le_refl _) fun i _ => c5.refl _) .nil))) (.cons _ _ _ _ (.refl _) .nil))), k2⟩
  ·have kl : m'.bo.length = m.bo.length + 1 := by
     rw [k1]
     show (m.bo ++ [Kd m]).length = _
     simp
   refine ⟨(wq m' r, (1000, some m.i0, .cells (rM u (wq m' r))) :: S1), ?_, ⟨⟨h1.low.cons om, ?_⟩, k3, fun o ho => ?_, ?_, fun q => ?_⟩, [], fun p => p, .c (.c (.c .nil)), c8.zs (Nc dc)⟩
   ·show (if r = 0 then n.toNat + 1 - m'.bo.length else 0) < if m.end_ = 0 then n.toNat + 1 - m.bo.length else 0
    rw [if_pos he, kl]
    split <;> omega
   ·have e := MC.wq h1.mc r
    rw [k3] at e
    exact e
   ·have ho' : o ∈ m'.bo := ho
    rw [k1] at ho'
    rcases List.mem_append.1 ho' with q | q
    ·exact hob o q
    ·rw [List.mem_singleton.1 q]; exact w.bo
   ·show m'.bo.length ≤ n.toNat
    omega
   ·have q' : r = 0 := q
    subst q'
    have b3 := k4 rfl b2
    refine ⟨(w2.step uo h2).wq 0, ?_⟩
    show Bd (wq m' 0) (m'.bo.length + 1)
    rw [kl]
    exact ⟨b3.fe, b3.hp, b3.n⟩
 ·repeat' (first | refine pg ?_ | refine af (vs := rM u m) ?_ rfl Lk rfl | refine aT (rows := fun i => fU i (el m.aD i)) ?_ rfl Lk rfl om | refine bG (us := [.int .i64 m.end_, .own 1003 m.bp m.bo.length 5]) ?_ rfl Lk ⟨by show 7 + 2 ≤ 9; decide, rfl⟩ | refine aH ?_ | refine af ?_ | (refine ai ?_; intro hl) | (refine aj ?_; intro b) | (refine aQ ?_ ?_ <;> intro hc <;> try first | contradiction | omega) | refine ag ?_ | refine aF ?_ | refine aG ?_ | refine pd ?_ | refine sC.mk rfl ?_ | refine ay ?_ | refine cH ?_ | refine pc ?_ | refine pt ?_ | refine pb ?_)
  all_goals (have k2 := k ⟨m.end_, m.bo⟩ ⟨hle, hob⟩; exact ⟨Or.inr rfl, ⟨rfl, ⟨trivial, trivial⟩⟩, _, _, rfl, (.bO _ _ (.cons _ _ _ _ (.agg _ _ (.cons _ _ _ _ (.refl _) (.cons _ _ _ _ (.own _ _ _ _ _ _ _ Lk (Nat.le_refl _) fun i _ => c5.refl _) .nil))) (.cons _ _ _ _ (.refl _) .nil))), k2⟩)
structure nN where
 st : Int
 name : List Nat
 to : Int
 deriving Inhabited
structure cZ where
 cls : List Nat
 bX : List (List Nat)
 start : Int
 bad : Int
 b9 : List nN
def Ph (x : nN) : List PV := [.int .i64 x.st, .str x.name, .int .i64 x.to]
def eZ (x : cZ) : List PV := [.str x.cls, pL 1 pS x.bX, .int .i64 x.start, .int .i64 x.bad, pL 3 Ph x.b9]
noncomputable def kQ (a b : Int) : Int := if a < b then -1 else if b < a then 1 else 0
noncomputable def Ki (a b : List Nat) : Int := if SS.lss.den a b = true then -1 else if SS.gtr.den a b = true then 1 else 0
noncomputable def JO (l : List Int) : Int := (l.findSome? fun x => if x = 0 then none else some x).getD 0
def wu (p : cZ) (s : Int) : Prop := 0 ≤ s ∧ s < p.bX.length
noncomputable def CT (a b : nN) : Int := JO [kQ a.st b.st, Ki a.name b.name]
theorem SV {S : aX} {q id : Nat} {a b : Int} (h : aI S q = some (some id, .arr 1 2 (rN 1 [.int .i64 a, .int .i64 b]))) : Zf S (.own q (some id) 2 1) (pL 1 pI [a, b]) := .own _ _ _ _ _ _ _ h (Nat.le_refl _) fun i hi => c5.of_eq (by
 match i, hi with
 | 0, _ => rfl
 | 1, _ => rfl)
theorem SW {S : aX} {q id : Nat} {a b c : Int} (h : aI S q = some (some id, .arr 1 3 (rN 1 [.int .i64 a, .int .i64 b, .int .i64 c]))) : Zf S (.own q (some id) 3 1) (pL 1 pI [a, b, c]) := .own _ _ _ _ _ _ _ h (Nat.le_refl _) fun i hi => c5.of_eq (by
 match i, hi with
 | 0, _ => rfl
 | 1, _ => rfl
 | 2, _ => rfl)
theorem sW {a : Int} {K : PV → Prop} (k : K (.bool false)) : PF Tryz.prog X0 Mx 117 [.int .i64 a] K := by
 refine Pf lp fun hnt => ?_
 repeat' (first | refine Qa ?_ | (refine Ba ?_ ?_ <;> try exact Za) | intro hc)
 exact E1 k
theorem oB {a : List Nat} {K : PV → Prop} (k : K (.bool false)) : PF Tryz.prog X0 Mx 172 [.str a] K := by
 refine Pf oq fun hnt => ?_
 repeat' (first | refine Qa ?_ | (refine Ba ?_ ?_ <;> try exact Za) | intro hc)
 exact E1 k
theorem pK {a b : Int} {K : PV → Prop} (k : K (.int .i64 (kQ a b))) : PF Tryz.prog X0 Mx 61 [.int .i64 a, .int .i64 b] K := by
 refine Pf jE fun hnt => ?_
 unfold kQ at k
 repeat' (first | refine Qa ?_ | (refine Ba ?_ ?_ <;> try exact Za) | refine aq (ao (sW ?_)) | intro hc)
 all_goals replace k := Ik k
 all_goals exact E1 k
theorem l8 {a b : List Nat} {K : PV → Prop} (k : K (.int .i64 (Ki a b))) : PF Tryz.prog X0 Mx 111 [.str a, .str b] K := by
 refine Pf l6 fun hnt => ?_
 unfold Ki at k
 repeat' (first | refine Qa ?_ | (refine Ba ?_ ?_ <;> try exact Za) | refine aq (ao (oB ?_)) | intro hc)
 all_goals replace k := Ik k
 all_goals exact E1 k
theorem yG {l : List Int} {K : PV → Prop} (k : K (.int .i64 (JO l))) : PF Tryz.prog X0 Mx 60 [pL 1 pI l] K := by
 refine Pf pw fun hnt => ?_
 unfold JO at k
 repeat' (first | refine Qa ?_ | (refine Ba ?_ ?_ <;> try exact Za) | intro hc)
 refine aJ (fun j : Nat => [(0, pL 1 pI l), (3, .int .i64 0), (6, pL 1 pI l), (7, .int .i64 (l.length : Nat)), (8, .int .i64 j)]) (fun _ => []) (fun j => j ≤ l.length ∧ ∀ i, i < j → el l i = 0) (fun j => l.length - j) 0 ⟨Nat.zero_le _, fh⟩ .su (.nil) ?_
 rintro j ⟨hj, hb⟩
 repeat' (first | refine Qa ?_ | (refine Ba ?_ ?_ <;> try exact Za) | intro hc)
 ·refine ⟨j + 1, by dsimp only; omega, ⟨om, fun i hi => ?_⟩, .su, (.nil)⟩
  by_cases q : i = j
  ·subst q; assumption
  ·exact hb i om
 ·rw [gY (g := fun x : Int => if x = 0 then none else some x) (l := l) (j := j) (y := el l j) (by omega) (if_neg (by assumption)) fun i hi => if_pos (hb i hi)] at k
  exact E1 k
 ·rw [iB (g := fun x : Int => if x = 0 then none else some x) fun i hi => if_pos (hb i (by omega))] at k
  exact E1 k
theorem oC {a b : nN} {K : PV → Prop} (k : K (.int .i64 (CT a b))) : PF Tryz.prog X0 Mx 53 [.agg (Ph a), .agg (Ph b)] K := by
 refine Pf n7 fun hnt => ?_
 unfold CT at k
 repeat' (first | refine Qb ?_ | (refine aj ?_; intro b) | refine aG ?_ | refine pd ?_ | refine dW (aM (pK ?_)) | refine dW (aM (l8 ?_)) | (refine bw ?_; intro bs) | (refine dW (il (.cons _ _ _ _ (SV rfl) .nil) (yG ⟨rfl, ?_⟩))))
 exact E1 k
theorem fC {p : cZ} {s : Int} {K : PV → Prop} (kt : wu p s → K (.bool true)) (kf : ¬ wu p s → K (.bool false)) : PF Tryz.prog X0 Mx 52 [.agg (eZ p), .int .i64 s] K := by
 refine Pf n5 fun hnt => ?_
 unfold wu at kt kf
 repeat' (first | refine Qa ?_ | (refine Ba ?_ ?_ <;> try exact Za) | intro hc)
 all_goals first
  | (have k := kt (by constructor <;> omega); exact E1 k)
  | (have k := kf om; exact E1 k)
theorem Hu {l : List (List Nat)} {s : List Nat} {K : PV → Prop} (k : K (.int .i64 (db (fun x => x = s) l))) : PF Tryz.prog X0 Mx 64 [pL 1 pS l, .str s] K := by
 refine Pf Hg fun hnt => ?_
 repeat' (first | refine Qa ?_ | (refine Ba ?_ ?_ <;> try exact Za) | intro hc)
 refine aJ (fun j : Nat => [(0, pL 1 pS l), (1, .str s), (5, .int .i64 j)]) (fun _ => []) (fun j => j ≤ l.length ∧ ∀ i, i < j → ¬ el l i = s) (fun j => l.length - j) 0 ⟨Nat.zero_le _, fh⟩ .su (.nil) ?_
 rintro j ⟨hj, hb⟩
 repeat' (first | refine Qa ?_ | (refine Ba ?_ ?_ <;> try exact Za) | intro hc)
 ·rw [fK (p := fun x => x = s) (j := j) (by omega) (by assumption) hb] at k
  exact E1 k
 ·refine ⟨j + 1, by dsimp only; omega, ⟨om, fun i hi => ?_⟩, .su, (.nil)⟩
  by_cases q : i = j
  ·subst q; assumption
  ·exact hb i om
 ·rw [fL (p := fun x => x = s) fun i hi => hb i (by omega)] at k
  exact E1 k
noncomputable def Kj (p : cZ) (s : Int) (nm : List Nat) : Int := (p.b9.findSome? fun m => if m.st = s ∧ m.name = nm then some m.to else none).getD s
theorem sX {p : cZ} {s : Int} {nm : List Nat} {K : PV → Prop} (k : K (.int .i64 (Kj p s nm))) : PF Tryz.prog X0 Mx 56 [.agg (eZ p), .int .i64 s, .str nm] K := by
 refine Pf sI fun hnt => ?_
 unfold Kj at k
 repeat' (first | refine Qa ?_ | (refine Ba ?_ ?_ <;> try exact Za) | intro hc)
 refine aJ (fun j : Nat => [(1, .int .i64 s), (2, .str nm), (3, .ptr 3 _ 0), (10, pL 3 Ph p.b9), (11, .int .i64 (p.b9.length : Nat)), (12, .int .i64 j)]) (fun _ => [(3, some _, .cells (eZ p))]) (fun j => j ≤ p.b9.length ∧ ∀ i, i < j → ¬ ((el p.b9 i).st = s ∧ (el p.b9 i).name = nm)) (fun j => p.b9.length - j) 0 ⟨Nat.zero_le _, fh⟩ .su .su ?_
 rintro j ⟨hj, hb⟩
 repeat' (first | refine Qa ?_ | (refine Ba ?_ ?_ <;> try exact Za) | intro hc)
 ·rw [gY (g := fun m : nN => if m.st = s ∧ m.name = nm then some m.to else none) (l := p.b9) (j := j) (y := (el p.b9 j).to) (by omega) (if_pos ⟨by assumption, by assumption⟩) fun i hi => if_neg (hb i hi)] at k
  exact E1 k
 ·refine ⟨j + 1, by dsimp only; omega, ⟨om, fun i hi => ?_⟩, .su, .su⟩
  by_cases q : i = j
  ·subst q; exact fun q => absurd q.2 am
  ·exact hb i om
 ·refine ⟨j + 1, by dsimp only; omega, ⟨om, fun i hi => ?_⟩, .su, .su⟩
  by_cases q : i = j
  ·subst q; exact fun q => absurd q.1 am
  ·exact hb i om
 ·rw [iB (g := fun m : nN => if m.st = s ∧ m.name = nm then some m.to else none) fun i hi => if_neg (hb i (by omega))] at k
  exact E1 k
noncomputable def vM (p : cZ) (i : Nat) : Int := if ¬ fy (el p.bX i) then 5 else if el p.bX i ∈ p.bX.take i then 7 else 0
noncomputable def nO (p : cZ) (i : Nat) : Int := if ¬ wu p (el p.b9 i).st then 4 else if ¬ wu p (el p.b9 i).to then 4 else if ¬ fy (el p.b9 i).name then 5 else if (el p.b9 i).st = p.bad then 22 else if i = 0 then 0 else if 0 ≤ CT (el p.b9 (((i : Nat) : Int) - 1).toNat) (el p.b9 i) then 13 else 0
noncomputable def sY (p : cZ) : Int := if ¬ fy p.cls then 5 else if 16 < p.bX.length then 3 else if 256 < p.b9.length then 3 else if p.bX.length = 0 then 4 else if ¬ bB (vM p) p.bX.length = 0 then bB (vM p) p.bX.length else if ¬ wu p p.start then 4 else if ¬ wu p p.bad then 4 else if p.start = p.bad then 1 else bB (nO p) p.b9.length
noncomputable def nB (p : cZ) (s : Int) (nm : List Nat) : Int := if ¬ sY p = 0 then -1 else if ¬ wu p s then -1 else Kj p s nm
theorem Ic {c : Prop} (h : c := by first | assumption | omega | (unfold wu; omega) | exact ff rfl) : c := h
theorem Id {c : Prop} (h : ¬ c := by first | assumption | exact not_not.2 (by assumption) | omega | (unfold wu; omega)) : ¬ c := h
theorem Il {p q : Prop} (k : p) (h : p → Wq q := by intro k; (repeat (first | rw [if_pos (by exact Ic)] at k | rw [if_neg (by exact Id)] at k)); exact ⟨k⟩) : q := (h k).u
theorem cut {p q : Prop} (h : p) (k : p → q) : q := k h
theorem D1 {a b : nN} : 0 ≤ CT a b ↔ b.st < a.st ∨ (a.st = b.st ∧ ¬ SS.lss.den a.name b.name = true) := by
 unfold CT JO kQ Ki
 by_cases h1 : a.st < b.st
 ·simp only [if_pos h1, List.findSome?_cons]
  rw [if_neg (by decide)]
  simp only [Option.getD_some]
  omega
 ·by_cases h2 : b.st < a.st
  ·simp only [if_neg h1, if_pos h2, List.findSome?_cons]
   rw [if_neg (by decide)]
   simp only [Option.getD_some]
   omega
  ·have h3 : a.st = b.st := by omega
   simp only [if_neg h1, if_neg h2, List.findSome?_cons, if_true]
   by_cases h4 : SS.lss.den a.name b.name = true
   ·simp only [if_pos h4]
    rw [if_neg (by decide)]
    simp only [Option.getD_some]
    constructor
    ·intro q; omega
    ·rintro (q | ⟨_, q⟩)
     ·omega
     ·exact absurd h4 q
   ·simp only [if_neg h4]
    constructor
    ·intro _; exact Or.inr ⟨h3, h4⟩
    ·intro _
     by_cases h5 : SS.gtr.den a.name b.name = true
     ·simp only [if_pos h5]; rw [if_neg (by decide)]; simp only [Option.getD_some]; decide
     ·simp only [if_neg h5]; simp
theorem Kk {a b : List Nat} : SS.geq.den a b = true ↔ ¬ SS.lss.den a b = true := by
 show (!JP a b) = true ↔ ¬ JP a b = true
 cases JP a b <;> simp
theorem kn {p : cZ} {K : PV → Prop} (k : K (.int .i64 (sY p))) : PF Tryz.prog X0 Mx 15 [.agg (eZ p)] K := by
 refine Pf qM fun hnt => ?_
 repeat' (first | refine Qb ?_ | (refine ai ?_; intro hl) | (refine aj ?_; intro b) | (refine Ba ?_ ?_ <;> intro hc <;> try exact Zb) | (refine aq (ao (du (fun hc => ?_) fun hc => ?_))) | refine pb ?_)
 all_goals try (unfold sY at k; replace k := Il k; exact E1 k)
 refine aJ (fun j : Nat => [(1, .ptr 1 _ 0), (26, pL 1 pS p.bX), (27, .int .i64 (p.bX.length : Nat)), (28, .int .i64 j)]) (fun _ => [(1, some _, .cells (eZ p))]) (fun j => j ≤ p.bX.length ∧ ∀ i, i < j → vM p i = 0) (fun j => p.bX.length - j) 0 ⟨Nat.zero_le _, fh⟩ .su .su ?_
 rintro j ⟨hj, hb⟩
 by_cases hlt : j < p.bX.length
 ·repeat' (first | refine Qb ?_ | (refine ai ?_; intro hl) | (refine aj ?_; intro b) | (refine Ba ?_ ?_ <;> intro hc <;> try exact Zb) | (refine aq (ao (du (fun hc => ?_) fun hc => ?_))) | (refine aq (ao (eT (fun hc => ?_) fun hc => ?_))) | (refine oD j ?_) | refine pb ?_)
  all_goals first
   | (have hs : vM p j = 5 := (by unfold vM; (repeat (first | rw [if_pos (by exact Ic)] | rw [if_neg (by exact Id)]))); have e := bc (f := vM p) (n := p.bX.length) om hb hs dc; unfold sY at k; replace k := Il k; first | (rw [e] at k; replace k := Il k; exact E1 k) | (rw [e] at k; exact E1 k))
   | (have hs : vM p j = 7 := (by unfold vM; (repeat (first | rw [if_pos (by exact Ic)] | rw [if_neg (by exact Id)]))); have e := bc (f := vM p) (n := p.bX.length) om hb hs dc; unfold sY at k; replace k := Il k; first | (rw [e] at k; replace k := Il k; exact E1 k) | (rw [e] at k; exact E1 k))
   | (have hs : vM p j = 0 := (by unfold vM; (repeat (first | rw [if_pos (by exact Ic)] | rw [if_neg (by exact Id)]))); (refine ⟨j + 1, by dsimp only; omega, ⟨om, fun i hi => ?_⟩, .su, .su⟩; by_cases q : i = j; (subst q; exact hs); (exact hb i om)))
 ·have hfs : bB (vM p) p.bX.length = 0 := bY fun i hi => hb i om
  repeat' (first | refine Qb ?_ | (refine ai ?_; intro hl) | (refine aj ?_; intro b) | (refine Ba ?_ ?_ <;> intro hc <;> try exact Zb) | (refine aq (ao (fC (fun hc => ?_) fun hc => ?_))) | refine pb ?_)
  all_goals try (unfold sY at k; replace k := Il k; exact E1 k)
  clear hb
  refine aJ (fun j : Nat => [(1, .ptr 1 _ 0), (61, pL 3 Ph p.b9), (62, .int .i64 (p.b9.length : Nat)), (63, .int .i64 j)]) (fun _ => [(1, some _, .cells (eZ p))]) (fun j => j ≤ p.b9.length ∧ ∀ i, i < j → nO p i = 0) (fun j => p.b9.length - j) 0 ⟨Nat.zero_le _, fh⟩ .su .su ?_
  rintro j ⟨hj, hb⟩
  by_cases hlt : j < p.b9.length
  ·repeat' (first | refine Qb ?_ | (refine ai ?_; intro hl) | (refine aj ?_; intro b) | (refine Ba ?_ ?_ <;> intro hc <;> try exact Zb) | refine aG ?_ | refine pd ?_ | (refine aq (ao (du (fun hc => ?_) fun hc => ?_))) | (refine aq (ao (fC (fun hc => ?_) fun hc => ?_))) | refine dW (aM (oC ?_)) | refine gH ?_ | refine pb ?_)
   all_goals first
    | (have hs : nO p j = 4 := (by unfold nO; (repeat (first | rw [if_pos (by exact Ic)] | rw [if_neg (by exact Id)]))); have e := bc (f := nO p) (n := p.b9.length) om hb hs dc; unfold sY at k; replace k := Il k; first | (rw [e] at k; replace k := Il k; exact E1 k) | (rw [e] at k; exact E1 k))
    | (have hs : nO p j = 5 := (by unfold nO; (repeat (first | rw [if_pos (by exact Ic)] | rw [if_neg (by exact Id)]))); have e := bc (f := nO p) (n := p.b9.length) om hb hs dc; unfold sY at k; replace k := Il k; first | (rw [e] at k; replace k := Il k; exact E1 k) | (rw [e] at k; exact E1 k))
    | (have hs : nO p j = 22 := (by unfold nO; (repeat (first | rw [if_pos (by exact Ic)] | rw [if_neg (by exact Id)]))); have e := bc (f := nO p) (n := p.b9.length) om hb hs dc; unfold sY at k; replace k := Il k; first | (rw [e] at k; replace k := Il k; exact E1 k) | (rw [e] at k; exact E1 k))
    | (have hs : nO p j = 13 := (by unfold nO; (repeat (first | rw [if_pos (by exact Ic)] | rw [if_neg (by exact Id)]))); have e := bc (f := nO p) (n := p.b9.length) om hb hs dc; unfold sY at k; replace k := Il k; first | (rw [e] at k; replace k := Il k; exact E1 k) | (rw [e] at k; exact E1 k))
    | (have hs : nO p j = 0 := (by unfold nO; (repeat (first | rw [if_pos (by exact Ic)] | rw [if_neg (by exact Id)]))); (refine ⟨j + 1, by dsimp only; omega, ⟨om, fun i hi => ?_⟩, .su, .su⟩; by_cases q : i = j; (subst q; exact hs); (exact hb i om)))
  ·have hms : bB (nO p) p.b9.length = 0 := bY fun i hi => hb i om
   repeat' (first | refine Qb ?_ | (refine ai ?_; intro hl) | (refine aj ?_; intro b) | (refine Ba ?_ ?_ <;> intro hc <;> try exact Zb) | refine pb ?_)
   all_goals (unfold sY at k; replace k := Il k; rw [hms] at k; exact E1 k)
theorem AF {p : cZ} {K : PV → Prop} (k : K (.int .i64 (bB (nO p) p.b9.length))) : PF Tryz.prog X0 Mx 65 [.agg (eZ p)] K := by
 refine Pf Ao fun hnt => ?_
 repeat' (first | refine Qa ?_ | (refine Ba ?_ ?_ <;> try exact Za) | intro hc)
 refine aJ (fun j : Nat => [(1, .ptr 1 _ 0), (3, .int .i64 j)]) (fun _ => [(1, some _, .cells (eZ p))]) (fun j => j ≤ p.b9.length ∧ ∀ i, i < j → nO p i = 0) (fun j => p.b9.length - j) 0 ⟨Nat.zero_le _, fh⟩ .su .su ?_
 rintro j ⟨hj, hb⟩
 by_cases hlt : j < p.b9.length
 ·repeat' (first | refine Qa ?_ | (refine Ba ?_ ?_ <;> try exact Za) | (refine aq (ao (dJ (fun hc => ?_) fun hc => ?_))) | intro hc)
  all_goals try (rw [← Classical.not_not (a := SS.geq.den _ _ = true), Kk, Classical.not_not] at hc)
  all_goals first
   | (have hs : nO p j = 4 := (by unfold nO; (repeat (first | rw [if_pos (by exact Ic)] | rw [if_neg (by exact Id)]))); rw [bc (by omega) hb hs (by decide)] at k; exact E1 k)
   | (have hs : nO p j = 5 := (by unfold nO; (repeat (first | rw [if_pos (by exact Ic)] | rw [if_neg (by exact Id)]))); rw [bc (by omega) hb hs (by decide)] at k; exact E1 k)
   | (have hs : nO p j = 22 := (by unfold nO; (repeat (first | rw [if_pos (by exact Ic)] | rw [if_neg (by exact Id)]))); rw [bc (by omega) hb hs (by decide)] at k; exact E1 k)
   | (refine cut (p := nO p j = 0) ?_ (fun hs => ?_); (focus (unfold nO; (repeat (first | rw [if_pos (by exact Ic)] | rw [if_neg (by exact Id)])); done)); (refine ⟨j + 1, by dsimp only; omega, ⟨om, fun i hi => ?_⟩, .su, .su⟩; by_cases q : i = j; (subst q; exact hs); (exact hb i om)))
   | (refine cut (p := 0 ≤ CT (el p.b9 (((j : Nat) : Int) - 1).toNat) (el p.b9 j)) ?_ (fun BY => ?_); (focus (refine D1.2 ?_; first | exact Or.inl am | exact Or.inr ⟨am, am⟩)); (have hs : nO p j = 13 := (by unfold nO; (repeat (first | rw [if_pos (by exact Ic)] | rw [if_neg (by exact Id)])))); rw [bc (by omega) hb hs (by decide)] at k; exact E1 k)
   | (refine cut (p := ¬ 0 ≤ CT (el p.b9 (((j : Nat) : Int) - 1).toNat) (el p.b9 j)) ?_ (fun BY => ?_); (focus (intro q; rcases D1.1 q with w | w; omega; first | (have := w.1; omega) | exact hc w.2)); (have hs : nO p j = 0 := (by unfold nO; (repeat (first | rw [if_pos (by exact Ic)] | rw [if_neg (by exact Id)])))); (refine ⟨j + 1, by dsimp only; omega, ⟨om, fun i hi => ?_⟩, .su, .su⟩; by_cases q : i = j; (subst q; exact hs); (exact hb i om)))
 ·have hms : bB (nO p) p.b9.length = 0 := bY fun i hi => hb i om
  repeat' (first | refine Qa ?_ | (refine Ba ?_ ?_ <;> try exact Za) | intro hc)
  all_goals (rw [hms] at k; exact E1 k)
theorem rV {p : cZ} {K : PV → Prop} (k : K (.int .i64 (sY p))) : PF Tryz.prog X0 Mx 27 [.agg (eZ p)] K := by
 refine Pf Al fun hnt => ?_
 repeat' (first | refine Qb ?_ | (refine ai ?_; intro hl) | (refine aj ?_; intro b) | (refine Ba ?_ ?_ <;> intro hc <;> try exact Zb) | (refine aq (ao (dJ (fun hc => ?_) fun hc => ?_))) | refine pb ?_)
 all_goals try (unfold sY at k; replace k := Il k; exact E1 k)
 refine aJ (fun j : Nat => [(1, .ptr 1 _ 0), (3, .int .i64 j)]) (fun _ => [(1, some _, .cells (eZ p))]) (fun j => j ≤ p.bX.length ∧ ∀ i, i < j → vM p i = 0) (fun j => p.bX.length - j) 0 ⟨Nat.zero_le _, fh⟩ .su .su ?_
 rintro j ⟨hj, hb⟩
 by_cases hlt : j < p.bX.length
 ·repeat' (first | refine Qb ?_ | (refine ai ?_; intro hl) | (refine aj ?_; intro b) | (refine Ba ?_ ?_ <;> intro hc <;> try exact Zb) | refine aG ?_ | refine pd ?_ | (refine aq (ao (dJ (fun hc => ?_) fun hc => ?_))) | (refine oD j ?_) | (refine dW (aM (Hu ?_))) | refine pb ?_)
  all_goals first
   | (have hs : vM p j = 5 := (by unfold vM; (repeat (first | rw [if_pos (by exact Ic)] | rw [if_neg (by exact Id)]))); have e := bc (f := vM p) (n := p.bX.length) om hb hs dc; unfold sY at k; replace k := Il k; first | (rw [e] at k; replace k := Il k; exact E1 k) | (rw [e] at k; exact E1 k))
   | (have hm : el p.bX j ∈ p.bX.take j := (by rcases ed (fun x => x = el p.bX j) (p.bX.take j) with ⟨q, _⟩ | ⟨i, _, hi, q, _⟩; (exfalso; omega); (rw [← q]; exact b8 hi)); (have hs : vM p j = 7 := (by unfold vM; (repeat (first | rw [if_pos (by exact Ic)] | rw [if_neg (by exact Id)]))); have e := bc (f := vM p) (n := p.bX.length) om hb hs dc; unfold sY at k; replace k := Il k; first | (rw [e] at k; replace k := Il k; exact E1 k) | (rw [e] at k; exact E1 k)))
   | (have hm : ¬ el p.bX j ∈ p.bX.take j := (fun w => by rcases ed (fun x => x = el p.bX j) (p.bX.take j) with ⟨_, q⟩ | ⟨i, q, _, _, _⟩; (obtain ⟨i, hi, e⟩ := dn w; exact q i hi e); omega); have hs : vM p j = 0 := (by unfold vM; (repeat (first | rw [if_pos (by exact Ic)] | rw [if_neg (by exact Id)]))); (refine ⟨j + 1, by dsimp only; omega, ⟨om, fun i hi => ?_⟩, .su, .su⟩; by_cases q : i = j; (subst q; exact hs); (exact hb i om)))
 ·have hfs : bB (vM p) p.bX.length = 0 := bY fun i hi => hb i om
  repeat' (first | refine Qb ?_ | (refine ai ?_; intro hl) | (refine aj ?_; intro b) | (refine Ba ?_ ?_ <;> intro hc <;> try exact Zb) | refine aq (ao (AF ?_)) | refine pb ?_)
  all_goals (unfold sY at k; replace k := Il k; exact E1 k)
theorem sZ {p : cZ} {s : Int} {nm : List Nat} {K : PV → Prop} (k : K (.int .i64 (nB p s nm))) : PF Tryz.prog X0 Mx 22 [.agg (eZ p), .int .i64 s, .str nm] K := by
 refine Pf sF fun hnt => ?_
 repeat' (first | refine Qa ?_ | (refine Ba ?_ ?_ <;> try exact Za) | refine aq (ao (kn ?_)) | (refine aq (ao (fC (fun hc => ?_) fun hc => ?_))) | refine aq (ao (sX ?_)) | intro hc)
 all_goals (unfold nB at k; replace k := Il k; exact E1 k)
theorem oE {p : cZ} {s : Int} {nm : List Nat} {K : PV → Prop} (k : K (.int .i64 (nB p s nm))) : PF Tryz.prog X0 Mx 30 [.agg (eZ p), .int .i64 s, .str nm] K := by
 refine Pf Cw fun hnt => ?_
 repeat' (first | refine Qa ?_ | (refine Ba ?_ ?_ <;> try exact Za) | refine aq (ao (rV ?_)) | intro hc)
 all_goals try (unfold nB at k; replace k := Il k; exact E1 k)
 unfold nB at k; replace k := Il k
 unfold Kj at k
 refine aJ (fun j : Nat => [(1, .int .i64 s), (2, .str nm), (3, .ptr 3 _ 0), (7, .int .i64 j)]) (fun _ => [(3, some _, .cells (eZ p))]) (fun j => j ≤ p.b9.length ∧ ∀ i, i < j → ¬ ((el p.b9 i).st = s ∧ (el p.b9 i).name = nm)) (fun j => p.b9.length - j) 0 ⟨Nat.zero_le _, fh⟩ .su .su ?_
 rintro j ⟨hj, hb⟩
 repeat' (first | refine Qa ?_ | (refine Ba ?_ ?_ <;> try exact Za) | intro hc)
 ·rw [gY (g := fun m : nN => if m.st = s ∧ m.name = nm then some m.to else none) (l := p.b9) (j := j) (y := (el p.b9 j).to) (by omega) (if_pos ⟨by assumption, by assumption⟩) fun i hi => if_neg (hb i hi)] at k
  exact E1 k
 ·refine ⟨j + 1, by dsimp only; omega, ⟨om, fun i hi => ?_⟩, .su, .su⟩
  by_cases q : i = j
  ·subst q; exact fun q => absurd q.2 am
  ·exact hb i om
 ·refine ⟨j + 1, by dsimp only; omega, ⟨om, fun i hi => ?_⟩, .su, .su⟩
  by_cases q : i = j
  ·subst q; exact fun q => absurd q.1 am
  ·exact hb i om
 ·rw [iB (g := fun m : nN => if m.st = s ∧ m.name = nm then some m.to else none) fun i hi => if_neg (hb i (by omega))] at k
  exact E1 k
end Go.Proofs.YtgaihilgffficaaGreatDoor.Ev
