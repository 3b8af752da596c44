/- CoverStates, part 23 -/
import Derived.Test.YtgaihilgffficaaGreatDoorPvI
import Derived.RangeFuncGives
import Derived.OwnWalkIn
import Derived.Shelf.GgSortFunc.InsertionK
import Derived.Sort.OwnSorted
set_option linter.all false
namespace Go.Proofs.YtgaihilgffficaaGreatDoor.Ev
section
open Go
variable [Gb]
section
variable {P : Program} {X : dg} {M : Mf} {nt d : Nat} {G : aZ} {S : aX} {K0 : PV → Prop} {K1 : (Nat → PV) → PB → Prop}
theorem yF {z : List AV} {ps : List (Nat × Nat × XV)} {zs : List PV} (hk : K1 (fun id => .Gg d id z.length) (.arr z.length 0 fun _ => [])) (hz : eC z = some zs := by exact rfl) (hp : mD G ps (List.replicate 0 zs).flatten = some [] := by exact rfl) : Jb P X M d (.cr 0 z ps) G K1 := ⟨fun c h F env r K' k => by
 obtain ⟨azs, e1, q⟩ := tz r ps _ [] _ hp (jI h F _ _ (rA hz 0))
 exact xt e1 (Nat.lt_succ_self _) (k _ _ _ _ (.arr _ _ _ _ om (fun i hi => absurd hi (Nat.not_lt_zero _)) fun i hi => absurd hi (Nat.not_lt_zero _)) (fun h' => .Gg _ _ _) (fun q => by cases q) hk)⟩
theorem LR {f1 f2 : Nat} {v : List (Nat × Nat)} {h : H} {e : Nat} {a : AV} {k : Nat → List AV → Out} : wC ⟨f1, v⟩ h e a k = wC ⟨f2, v⟩ h e a k := by
 unfold wC dD cT
 cases a <;> rfl
theorem Ro {i al fm p e by_ p0 id0 m n : Nat} {wr fz b : Bool} {S0 : aX} {s x : XV} {v : PV} {g : Option (Nat × Bool)} {ops : List SR} {Q : aZ → aX → Prop} {r0 r2 : Nat → List PV} (hk : ∀ bp, (0 < m → ∃ id, bp = some id) → PD P X M nt ops (i + 1) (al ||| 1 <<< i) fm wr false S0 ((d, .own p0 bp m e) :: G) ((p0, bp, .arr e m r2) :: S) Q)
    (hs : ca G s = some (.Gg p0 id0 e)) (hx : ca G x = some v) (hS : aI S p0 = some (some id0, .arr e n r0)) (hv : Src S e v m r2) (ho : ∀ i, i < m → PV.cw (r2 i) = true) (hb : m * by_ ≤ 140737488355328) (hby : 0 < by_)
    (hg : dM G g = some true := by exact rfl) (hp : al ||| p = p := by decide) (hw : wr = false ∨ fm ||| p = p := by first | exact Or.inl rfl | exact Or.inr dc) (hd : Nat.blt d nt = true := by exact rfl) (hnt : nt ≤ 1000000 := by assumption) : PD P X M nt (⟨some d, .append e by_ s x, g, p, true, b, none⟩ :: ops) i al fm wr fz S0 G S Q := ⟨fun c n0 h F env rs bs fs di r => by
 obtain ⟨a, e1, q1⟩ := r.ev hs
 obtain ⟨y, e2, q2⟩ := r.ev hx
 cases q1
 have hle := di.le
 have s0 : St ⟨0, (h.n, jf) :: cE p (bD n0 c.cM) rs⟩ h F S := ⟨Cx.mem (Nat.zero_le _), di.st.gl, fun id q => ⟨(di.st.fr id q).1, di.all hp (di.st.fr id q).2 (di.st.fr id q).1⟩, fun pl id b e hb => by
  obtain ⟨g1, g2, g3, g4, g5⟩ := di.st.own pl id b e hb
  exact ⟨g1, Nat.zero_le _, di.all hp g3 g1, g4, g5⟩, di.st.inj⟩
 obtain ⟨us, l2, hsrc⟩ := Jg s0 hv q2
 have hones := l2.cw ho
 obtain ⟨t1, t2, _, ab, t3, t4⟩ := s0.at_ hS (fun q => by cases q)
 have hfl : ∀ fl, fl ≤ h.n → WO P X M ⟨fl, (h.n, jf) :: cE p (bD n0 c.cM) rs⟩ (.append e by_ s x) env h (fun v h' => ∃ bp, h.n ≤ h'.n ∧ (∀ id, id < h.n → h'.get id = h.get id) ∧ (∀ id, bp = some id → PB.arr e m r2 ≠ .dead → (id = h.n ∧ h.n < h'.n ∨ ∃ b, aI S p0 = some (some id, b) ∧ b ≠ .dead) ∧ ∃ ab, h'.get id = some ab ∧ ∀ F' : Nat → Prop, (∀ i, F i → F' i ∧ h'.get i = h.get i) → RB h' F' (.arr e m r2) ab) ∧ R h' F (.own p0 bp m e) v ∧ (0 < m → ∃ id, bp = some id)) := fun fl hfl => by
  have hsrc' : ∀ k : Nat → List AV → Out, wC ⟨fl, (h.n, jf) :: cE p (bD n0 c.cM) rs⟩ h e y k = k m us := fun k => LR.trans (hsrc k)
  cases t4 with
  | arr _ _ _ azs w1 w2 w3 =>
  by_cases hm : m = 0
  ·subst hm
   have hu : us = [] := by have := l2.len; simpa using this
   subst hu
   refine bq (v := .sl id0 0 0 e (some 0)) (h' := h) (fun sl hh call k => by
    simp only [SO.den, eI, hh.ev e1, hh.ev e2]; rw [hsrc']
    have : Nat.beq e e = true := by simp
    simp only [Ev.cw, cond, p6, this]) ⟨some id0, Nat.le_refl _, fun _ _ => rfl, fun id q _ => ?_, .own _ _ _ _ _ om, fun q => absurd q om⟩
   cases q
   exact ⟨Or.inr ⟨_, hS, fun q => by cases q⟩, _, t3, fun F' hm => .arr _ _ _ _ om (fun i hi => absurd hi (Nat.not_lt_zero _)) fun i hi => absurd hi (Nat.not_lt_zero _)⟩
  ·have hnb : Nat.beq m 0 = false := by rw [mS]; simp [hm]
   have hbl : Nat.blt 140737488355328 (Nat.mul (0 + m) by_) = false := xu (by rw [Nat.zero_add]; exact hb)
   have hbe : Nat.beq e e = true := by simp
   have hgr : gk (some 0) (0 + m) = true := by
    show Nat.blt 0 (0 + m) = true
    have h9 : 0 < 0 + m := by omega
    exact Nat.ble_eq_true_of_le h9
   have hkm : m ≤ 140737488355328 := Nat.le_trans (Nat.le_mul_of_pos_right _ hby) hb
   refine bq (v := .sl h.n 0 (0 + m) e none) (h' := h.new (.cells us)) (fun sl hh call k' => ?_) ⟨some h.n, by rw [vx]; omega, fun j hj => ir (Nat.lt_succ_self _) _ om, fun id q _ => ?_, by rw [Nat.zero_add]; exact .own _ _ _ _ _ om, fun _ => ⟨_, rfl⟩⟩
   ·simp only [SO.den, eI, hh.ev e1, hh.ev e2]
    rw [hsrc']
    simp only [hones, cond, p6, hbe, hnb, dD, dV (c := ⟨fl, (h.n, jf) :: cE p (bD n0 c.cM) rs⟩) t2, t3]
    rw [gw _ _ _ (by omega)]
    show gh (0 * e) _ _ = _
    rw [gx _ _ _ (by simp)]
    simp only [fv, bn]
    show (bif Nat.blt 140737488355328 (Nat.mul (0 + m) by_) then _ else _) = _
    rw [hbl]
    simp only [cond]
    show (bif gk (some 0) (0 + m) then _ else _) = _
    rw [hgr]
    simp only [cond]
    rw [gW (Nat.lt_succ_self _)]
    simp
   ·cases q
    refine ⟨Or.inl ⟨rfl, by rw [vx]; omega⟩, _, lg (Nat.lt_succ_self _) _, fun F' hm => l2.rb.mono fun i hi => ⟨(hm i hi).1, (hm i hi).2⟩⟩
 have next : ∀ v h', (∃ bp, h.n ≤ h'.n ∧ (∀ id, id < h.n → h'.get id = h.get id) ∧ (∀ id, bp = some id → PB.arr e m r2 ≠ .dead → (id = h.n ∧ h.n < h'.n ∨ ∃ b, aI S p0 = some (some id, b) ∧ b ≠ .dead) ∧ ∃ ab, h'.get id = some ab ∧ ∀ F' : Nat → Prop, (∀ i, F i → F' i ∧ h'.get i = h.get i) → RB h' F' (.arr e m r2) ab) ∧ R h' F (.own p0 bp m e) v ∧ (0 < m → ∃ id, bp = some id)) → ji p h.t h'.t fs = true ∧ ∀ bs', (bs' = bs ∨ bs' = (i, h.t, h'.t) :: bs) → WD P X M c nt (bD n0 c.cM) ops (i + 1) (gL i h.n h'.n rs) bs' fs ((d, v) :: env) h' (fun env' h' => Leaves c h F S env' h' Q) := fun v h' ⟨bp, hle', same, hnew, b3, a4⟩ => by
  refine ⟨kB fun f x => ?_, fun bs' hbs => ?_⟩
  ·rcases hw with y | y
   ·obtain ⟨g1, us, g2⟩ := di.MF y f x
    exact Or.inr ⟨us, g2, (same _ g1).trans g2⟩
   ·rcases di.Gn f x with z | ⟨z, us, g2⟩
    ·exact Or.inl (testBit_or y z)
    ·exact Or.inr ⟨us, g2, (same _ (di.st.fr _ z).1).trans g2⟩
  ·obtain ⟨s4, x4⟩ := di.st.nK hle' (fun id bV _ => same id bV) hnew
   refine WD.mono ((hk bp a4).run c n0 h' F _ _ _ fs ⟨s4, om, qw hle' di.OJ, fun r q => ?_, fun b q => ?_, fun hw b q id bV => ?_, fun f q => (di.Gn f q).imp id fun ⟨z, vs, e⟩ => ⟨z, vs, (same _ (di.st.fr _ z).1).trans e⟩, fun hw f q => ?_, fun x => (by cases x), di.jG⟩ ((r.mono fun id q => ⟨q, same id (di.st.fr id q).1⟩).put b3)) fun _ _ l => l.after x4
   ·rcases gr _ q with q | q
    ·exact di.lo r q
    ·subst q; exact hle
   ·rcases hbs with rfl | rfl
    ·rw [Nat.testBit_or, di.JT b q]; rfl
    ·rcases List.mem_cons.1 q with rfl | q
     ·rw [Nat.testBit_or]; simp [Nat.testBit_shiftLeft]
     ·rw [Nat.testBit_or, di.JT b q]; rfl
   ·have e3 := same id om
    have jG : ∀ b ∈ bs, Tr.get b.2.1 id = h'.get id ∧ Tr.get b.2.2 id = h'.get id := fun b q => by
     obtain ⟨e1, e2⟩ := di.Pm hw b q id bV
     rw [e3]; exact ⟨e1, e2⟩
    rcases hbs with rfl | rfl
    ·exact jG b q
    ·rcases List.mem_cons.1 q with rfl | q
     ·exact ⟨e3.symm, rfl⟩
     ·exact jG b q
   ·obtain ⟨e1, us, e2⟩ := di.MF hw f q
    exact ⟨om, us, (same _ e1).trans e2⟩
 cases b with
 | true => exact zo hnt (dE r hg) hd ((hfl c.floor di.st.cx.low).mono fun v h' x => ⟨(next v h' x).1, (next v h' x).2 _ (Or.inr rfl)⟩)
 | false => exact DC hnt (dE r hg) hd ((hfl h.n (Nat.le_refl _)).mono fun v h' x => (next v h' x).2 _ (Or.inl rfl))⟩
theorem R.rows {h : H} {F : Nat → Prop} {e n : Nat} {r1 r2 : Nat → List PV} {a : AV} (q : R h F (.tr e n r1) a) (hr : ∀ i, i < n → r1 i = r2 i) : R h F (.tr e n r2) a := by
 cases q with
 | wD _ _ _ q => exact .wD _ _ _ q
 | tr _ _ _ id off cap vs g0 g1 g2 g3 g4 g5 => exact .tr _ _ _ id off cap vs g0 g1 g2 g3 (fun i hi => by rw [← hr i hi]; exact g4 i hi) fun i hi => by rw [← hr i hi]; exact g5 i hi
theorem kG.rows {op : SO} {e n : Nat} {r1 r2 : Nat → List PV} (w : kG P X M op G fun v => v = .tr e n r1) (hr : ∀ i, i < n → r1 i = r2 i) (hk : K0 (.tr e n r2)) : kG P X M op G K0 := ⟨fun c h F env r K' k => w.run c h F env r K' fun p a q e => by
 subst e
 exact k _ _ (q.rows hr) hk⟩
theorem oD {α : Type} [Inhabited α] {e : Nat} {f : α → List PV} {l : List α} {x : XV} {lo hi : Option XV} {u : Int} (j : Nat) (hk : K0 (pL e f (l.take j))) (hx : ca G x = some (pL e f l) := by exact rfl) (hl : nG G 0 lo = some 0 := by exact rfl) (hu : nG G l.length hi = some u := by exact rfl) (hj : u = (j : Int) := by omega) (h1 : j ≤ l.length := by omega) (hn : 0 < l.length := by omega) : kG P X M (.slice e x lo hi) G K0 := by
 subst hj
 have w : kG P X M (.slice e x lo hi) G fun v => v = .tr e ((j : Int) - 0).toNat (fun i => f (el l (i + (0 : Int).toNat))) := iL rfl hx hl hu hn om om om
 have hlen : (l.take j).length = ((j : Int) - 0).toNat := by rw [List.length_take]; omega
 refine w.rows (r2 := fun i => f (el (l.take j) i)) (fun i hi => ?_) (by rw [← hlen]; exact hk)
 rw [fg (by omega)]; rfl
theorem CV {α : Type} [Inhabited α] {e : Nat} {f : α → List PV} {l : List α} {x : XV} {lo hi : Option XV} {u : Int} (j : Nat) (hk : K0 (pL e f (l.drop j))) (hx : ca G x = some (pL e f l) := by exact rfl) (hl : nG G 0 lo = some u := by exact rfl) (hu : nG G l.length hi = some l.length := by exact rfl) (hj : u = (j : Int) := by omega) (h1 : j ≤ l.length := by omega) (hn : 0 < l.length := by omega) : kG P X M (.slice e x lo hi) G K0 := by
 subst hj
 have w : kG P X M (.slice e x lo hi) G fun v => v = .tr e ((l.length : Int) - (j : Int)).toNat (fun i => f (el l (i + (j : Int).toNat))) := iL rfl hx hl hu hn om om om
 have hlen : (l.drop j).length = ((l.length : Int) - (j : Int)).toNat := by rw [List.length_drop]; omega
 refine w.rows (r2 := fun i => f (el (l.drop j) i)) (fun i hi => ?_) (by rw [← hlen]; exact hk)
 show f (el l (i + (j : Int).toNat)) = _
 rw [Int.toNat_natCast, show el (l.drop j) i = el l (i + j) by simp [el, List.getElem?_drop, Nat.add_comm]]
theorem Fi {e : Nat} {x : XV} {lo hi : Option XV} (hk : K0 .aO) (hx : ca G x = some .aO := by exact rfl) (hl : nG G 0 lo = some 0 := by exact rfl) (hu : nG G 0 hi = some 0 := by exact rfl) : kG P X M (.slice e x lo hi) G K0 := ⟨fun c h F env r K' k => by
 obtain ⟨a, e1, q⟩ := r.ev hx
 have l1 := sj r (z := 0) hl om
 have l2 := sj r (z := 0) hu om
 cases q
 refine bq (fun sl hs call k' => ?_) (k _ _ .aO hk)
 have o1 : cU sl 0 lo = some 0 := jY hs l1
 have o2 : cU sl 0 hi = some 0 := jY hs l2
 simp only [SO.den, mi, hs.ev e1, o1, o2]⟩
theorem LS (a b : Int × Int × Int) : SQ.den (.st [.int, .int, .int]) (C4 a) (C4 b) = some (decide (a = b)) := by
 have e := rF [a.1, a.2.1, a.2.2] [b.1, b.2.1, b.2.2] rfl
 refine Eq.trans e ?_
 congr 1
 obtain ⟨a1, a2, a3⟩ := a
 obtain ⟨b1, b2, b3⟩ := b
 by_cases q : (a1, a2, a3) = (b1, b2, b3)
 ·rw [decide_eq_true q]
  simp only [Prod.mk.injEq] at q
  obtain ⟨rfl, rfl, rfl⟩ := q
  simp
 ·rw [decide_eq_false q]
  simp only [decide_eq_false_iff_not]
  intro w
  simp only [List.cons.injEq, and_true] at w
  exact q (by rw [w.1, w.2.1, w.2.2])
theorem Nj {K : PV → aX → Prop} {x key y : XV} {k : Int × Int × Int} {p id : Nat} {f : Int × Int × Int → Option PV} {v : PV} (hk : K (.bO []) ((p, some id, .jc (fun j => if j = k then some v else f j)) :: S)) (hx : ca G x = some (.qD p id) := by exact rfl) (hS : aI S p = some (some id, .jc f) := by exact rfl) (hkey : ca G key = some (.agg [.int .i64 k.1, .int .i64 k.2.1, .int .i64 k.2.2]) := by exact rfl) (hy : ca G y = some v := by exact rfl) : PO P X M d (.lj (.st [.int, .int, .int]) x key y) G S K := ⟨fun c h F env s r => by
 obtain ⟨a, e1, q1⟩ := r.ev hx
 obtain ⟨b, e2, q2⟩ := r.ev hkey
 obtain ⟨u, e3, q3⟩ := r.ev hy
 cases q1
 have hb : b = C4 k := by
  cases q2 with
  | agg _ azs q =>
   cases q with
   | cons _ _ _ _ q1 q =>
    cases q with
    | cons _ _ _ _ q2 q =>
     cases q with
     | cons _ _ _ _ q3 q => cases q1; cases q2; cases q3; cases q; rfl
 subst hb
 obtain ⟨g1, g2, g3, ab, g4, g5⟩ := s.at_ hS (fun q => by cases q)
 cases g5 with
 | jc _ l ck w0 w1 w2 =>
  refine Jk (ky := C4) (q := .st [.int, .int, .int]) LS e1 e2 e3 g1 g2 g4 fun l' ck' nd e => ?_
  obtain ⟨u1, u2⟩ := DE w1 w2 q3 e
  obtain ⟨s1, x1⟩ := s.put hS (fun q => by cases q) (RB.jc _ l' ck' (nd w0) u1 u2)
  exact ⟨_, _, F, x1, s1, .bO _ _ .nil, hk⟩⟩
end
def rX (a b : Int × Int × Int) : Bool := decide (a.1 < b.1) || (decide (a.1 = b.1) && (decide (a.2.1 < b.2.1) || (decide (a.2.1 = b.2.1) && decide (a.2.2 < b.2.2))))
theorem dU {a b : Int × Int × Int} : rX a b = true ↔ a.1 < b.1 ∨ (a.1 = b.1 ∧ (a.2.1 < b.2.1 ∨ (a.2.1 = b.2.1 ∧ a.2.2 < b.2.2))) := by
 unfold rX
 simp only [Bool.or_eq_true, Bool.and_eq_true, decide_eq_true_eq]
def BZ (a b : Int × Int × Int) : Bool := !rX b a
theorem qz {a b : Int × Int × Int} : BZ a b = true ↔ ¬ rX b a = true := by
 unfold BZ; cases rX b a <;> simp
def fN (l : List (Int × Int × Int)) : List (Int × Int × Int) := l.mergeSort BZ
theorem AX {a b : Int × Int × Int} (h1 : BZ a b = true) (h2 : BZ b a = true) : a = b := by
 rw [qz, dU] at h1 h2
 obtain ⟨a1, a2, a3⟩ := a
 obtain ⟨b1, b2, b3⟩ := b
 simp only at h1 h2
 have e1 : a1 = b1 := by omega
 have e2 : a2 = b2 := by omega
 have e3 : a3 = b3 := by omega
 rw [e1, e2, e3]
theorem qY (a b c : Int × Int × Int) (h1 : BZ a b = true) (h2 : BZ b c = true) : BZ a c = true := by
 rw [qz, dU] at *
 omega
theorem qZ (a b : Int × Int × Int) : (BZ a b || BZ b a) = true := by
 rw [Bool.or_eq_true, qz, qz, dU, dU]
 omega
theorem OU {a b : Int × Int × Int} (h : rX a b = true) : BZ a b = true := by
 rw [qz, dU]
 rw [dU] at h
 omega
theorem OV {a b : Int × Int × Int} (h : rX a b = true) : a ≠ b := fun e => by
 rw [dU, e] at h
 omega
theorem Jo {l ks : List (Int × Int × Int)} (hl : l.Nodup) (hs : ks.Pairwise fun a b => rX a b = true) (hm : ∀ k, k ∈ l ↔ k ∈ ks) : fN l = ks := by
 have hk : ks.Nodup := hs.imp fun h => OV h
 have h1 : (fN l).Perm ks := (List.mergeSort_perm l BZ).trans ((List.perm_ext_iff_of_nodup hl hk).2 hm)
 exact h1.eq_of_pairwise (le := fun a b => BZ a b = true) (fun a b _ _ q w => AX q w) (List.pairwise_mergeSort qY qZ l) (hs.imp fun h => OU h)
def oI : List (AV × AV × Nat) → Option (List (Int × Int × Int))
 | [] => some []
 | (.agg [.int .i64 a, .int .i64 b, .int .i64 c], _) :: l => (oI l).map ((a, b, c) :: ·)
 | _ => none
theorem vB : ∀ (l : List ((Int × Int × Int) × AV × Nat)), oI (oT C4 l) = some (l.map Prod.fst)
 | [] => rfl
 | ((a, b, c), x) :: l => by
  have ih := vB l
  show (oI (oT C4 l)).map _ = _
  rw [ih]; rfl
def nR (k : Int × Int × Int) : List AV := [.int .i64 k.1, .int .i64 k.2.1, .int .i64 k.2.2]
def kL (sf kf cf : Nat) : Mf := fun g args c h => bif Nat.beq g sf then match args with
 | [.fn k [.ptr p 0], .fn q []] => bif Nat.beq k kf && Nat.beq q cf then match cT c h p with
  | some (.cells [.mp m]) => match cT c h m with
   | some (.map l ck) => match oI l with
    | some ks => bif (decide (l.map fun p => p.2.2).Nodup && l.all fun p => Nat.blt p.2.2 ck) && Nat.blt ks.length 1000000 then match ks with
     | [] => some (.aO, h)
     | k :: ks => some (.sl h.n 0 (ks.length + 1) 3 none, h.new (.cells ((fN (k :: ks)).flatMap nR)))
     else none
    | none => none
   | _ => none
  | _ => none
  else none
 | _ => none
 else none
theorem Cr {sf kf cf g : Nat} (hne : Nat.beq g sf = false) (args : List AV) (c : C) (h : H) : kL sf kf cf g args c h = none := by unfold kL; rw [hne]; rfl
theorem uE {P : Program} {X : dg} {M : Mf} {c : C} {h h' : H} {f : Nat} {args : List AV} {v : AV} {K : AV → H → Prop} (e : M f args c h = some (v, h')) (hK : K v h') : Gv P X M c f args h K := by
 refine ⟨v, h', ⟨1, fun n hn => ?_⟩, hK⟩
 cases n with
 | zero => omega
 | succ n =>
  show (match M f args c h with | some r => lr.call r.1 r.2 | none => jF (ev (cC P) (bW P X) M n) c args h (bW P X f)) = _
  rw [e]
def OW (k : Int × Int × Int) : List PV := [.int .i64 k.1, .int .i64 k.2.1, .int .i64 k.2.2]
theorem EF {h : H} {F : Nat → Prop} : ∀ (ks : List (Int × Int × Int)) (i : Nat), i < ks.length → Rs h F (OW (el ks i)) (((ks.flatMap nR).drop (i * 3)).take 3)
 | [], i, hi => absurd hi (Nat.not_lt_zero _)
 | k :: ks, 0, _ => .cons _ _ _ _ (.int _ _) (.cons _ _ _ _ (.int _ _) (.cons _ _ _ _ (.int _ _) .nil))
 | k :: ks, i + 1, hi => by
  have ih := EF (h := h) (F := F) ks i (by simpa using hi)
  rw [show (i + 1) * 3 = 3 + i * 3 by omega, ← List.drop_drop]
  exact ih
theorem uJ : ∀ (ks : List (Int × Int × Int)), (ks.flatMap nR).length = ks.length * 3
 | [] => rfl
 | k :: ks => by
  rw [List.flatMap_cons, List.length_append, uJ ks, List.length_cons]
  show 3 + _ = _
  omega
theorem BT {κ : Type} [DecidableEq κ] {a : κ} {y : Nat × AV} : ∀ {l : List (κ × AV × Nat)}, gz a l = some y → a ∈ l.map Prod.fst
 | [], h => by cases h
 | p :: l, h => by
  rw [gz] at h
  by_cases q : a = p.1
  ·rw [q]; simp
  ·rw [if_neg q] at h
   cases hf : gz a l with
   | none => rw [hf] at h; cases h
   | some z => exact List.mem_cons_of_mem _ (BT hf)
theorem CZ {P : Program} {X : dg} {M : Mf} {S : aX} {K : PV → aX → Prop} {sf kf cf pp id q idm T : Nat} {g : Int × Int × Int → Option PV} {ks : List (Int × Int × Int)} (hM : ∀ azs c h, M sf azs c h = kL sf kf cf sf azs c h) (h1 : aI S pp = some (some id, .cells [.qD q idm])) (h2 : aI S q = some (some idm, .jc g)) (hs : ks.Pairwise fun a b => rX a b = true) (hg : ∀ k, g k = none ↔ ¬ k ∈ ks) (hl : ks.length < 1000000) (k0 : ks = [] → K .aO S) (k1 : ks ≠ [] → ∀ id', K (.own T (some id') ks.length 3) ((T, some id', .arr 3 ks.length fun i => OW (el ks i)) :: S)) : lP P X M sf [.fn kf [.ptr pp id 0], .fn cf []] S K := fun c h F azs st r => by
 cases r with
 | cons _ _ _ _ r1 r =>
 cases r with
 | cons _ _ _ _ r2 r =>
 cases r
 cases r1 with
 | fn _ _ _ r1 =>
 cases r1 with
 | cons _ _ _ _ r3 r1 =>
 cases r1; cases r3
 cases r2 with
 | fn _ _ _ r2 =>
 cases r2
 obtain ⟨g1, g2, g3, ab, g4, g5⟩ := st.at_ h1 (fun q => by cases q)
 obtain ⟨m1, m2, m3, mb, m4, m5⟩ := st.at_ h2 (fun q => by cases q)
 cases g5 with
 | cells _ _ g5 =>
 cases g5 with
 | cons _ _ _ _ r4 g5 =>
 cases g5; cases r4
 cases m5 with
 | jc _ l ck w0 w1 w2 =>
 have hmem : ∀ k, k ∈ l.map Prod.fst ↔ k ∈ ks := fun k => by
  have e1 := w1 k
  have e2 := hg k
  constructor
  ·intro h
   refine Classical.byContradiction fun q => ?_
   exact zq (e1.2 (e2.2 q)) h
  ·intro h
   refine Classical.byContradiction fun q => ?_
   have : gz k l = none := by
    cases hf : gz k l with
    | none => rfl
    | some y => exact absurd (BT hf) q
   exact (e2.1 (e1.1 this)) h
 have hsort := Jo w0.1 hs hmem
 have hlen : (l.map Prod.fst).length = ks.length := by
  rw [← hsort]; exact (List.length_mergeSort _).symm
 have hst : (oT C4 l).map (fun p => p.2.2) = l.map fun p => p.2.2 := by simp [oT, Function.comp_def]
 have hb : ((decide ((oT C4 l).map fun p => p.2.2).Nodup && (oT C4 l).all fun p => Nat.blt p.2.2 ck) && Nat.blt (l.map Prod.fst).length 1000000) = true := by
  have h3 : ((oT C4 l).all fun p => Nat.blt p.2.2 ck) = true := by
   rw [List.all_eq_true]
   intro p hp
   have h4 : p.2.2 ∈ (oT C4 l).map fun p => p.2.2 := List.mem_map.2 ⟨p, hp, rfl⟩
   rw [hst] at h4
   obtain ⟨q, hq, e⟩ := List.mem_map.1 h4
   rw [← e]
   simpa [Nat.blt_eq] using w0.2.2 q hq
  rw [hst, decide_eq_true w0.2.1, h3, hlen]
  simpa [Nat.blt_eq] using hl
 have eM : M sf [.fn kf [.ptr id 0], .fn cf []] c h = (match l.map Prod.fst with
         | [] => some (.aO, h)
         | k :: ks => some (.sl h.n 0 (ks.length + 1) 3 none, h.new (.cells ((fN (k :: ks)).flatMap nR)))) := by
  rw [hM]
  unfold kL
  have b1 : Nat.beq sf sf = true := by simp
  have b2 : Nat.beq kf kf = true := by simp
  have b3 : Nat.beq cf cf = true := by simp
  simp only [b1, b2, b3, Bool.and_self, cond_true, dV g2, g4, dV m2, m4, vB, hb]
 cases hL : l.map Prod.fst with
 | nil =>
  rw [hL] at eM hlen
  have hk0 : ks = [] := List.eq_nil_of_length_eq_zero hlen.symm
  exact uE eM ⟨_, S, F, Ext.refl _ _ _, st, .aO, k0 hk0⟩
 | cons k0' kl =>
  rw [hL] at eM hsort hlen
  replace eM : M sf [.fn kf [.ptr id 0], .fn cf []] c h = some (.sl h.n 0 (kl.length + 1) 3 none, h.new (.cells ((fN (k0' :: kl)).flatMap nR))) := eM
  replace hlen : kl.length + 1 = ks.length := hlen
  rw [hsort, hlen] at eM
  have hB : RB h F (.arr 3 ks.length fun i => OW (el ks i)) (.cells (ks.flatMap nR)) := .arr _ _ _ _ (by rw [uJ]; exact Nat.le_refl _) (fun i hi => rfl) fun i hi => EF ks i hi
  obtain ⟨s1, x1⟩ := st.new T hB
  exact uE eM ⟨_, _, F, x1, s1, .own _ _ _ _ _ om, k1 (fun e => by rw [e] at hlen; simp at hlen) h.n⟩
def Px (a b : Mf) : Mf := fun f args c h => match a f args c h with
 | some r => some r
 | none => b f args c h
theorem Hc {a b : Mf} {f : Nat} {args : List AV} {c : C} {h : H} (ha : a f args c h = none) (hb : b f args c h = none) : Px a b f args c h = none := by unfold Px; rw [ha]; exact hb
mutual
def lN : Sh → Dt → List PV
 | .int k, d => [.int k d.n]
 | .str, d => [.str d.s]
 | .bool, d => [.bool d.b]
 | .row shs, d => Sj shs 0 d.l
 | .arr e, d => [.tr e.sz d.l.length fun i => lN e (d.l.getD i (.int 0))]
def Sj : List Sh → Nat → List Dt → List PV
 | [], _, _ => []
 | s :: shs, i, ds => lN s (ds.getD i (.int 0)) ++ Sj shs (i + 1) ds
end
mutual
theorem Rp.pv {B : Nat} (hB : 9223372036854775807 ≤ B) {h : H} {F : Nat → Prop} (hF : ∀ id, id < h.n → F id) : ∀ {sh : Sh} {d : Dt} {cs : List AV}, Rp B false h sh d cs → Rs h F (lN sh d) cs
 | .int k, d, cs, q => by
  obtain ⟨n, rfl, rfl⟩ := OX q
  exact .cons _ _ _ _ (.int _ _) .nil
 | .str, d, cs, q => by
  obtain ⟨n, rfl, rfl⟩ := OY q
  exact .cons _ _ _ _ (.str _) .nil
 | .bool, d, cs, q => by
  obtain ⟨n, rfl, rfl⟩ := LU q
  exact .cons _ _ _ _ (.bool _) .nil
 | .row shs, d, cs, q => by
  obtain ⟨ds, e, q2⟩ := OZ q
  subst e
  exact kE.pv hB hF [] q2
 | .arr e, d, cs, q => by
  rcases vC.1 q with ⟨l, sv, rfl, rfl, _, sl⟩ | ⟨_, n, oa, cp, _, _, h1, _, h2⟩
  ·obtain ⟨id, rows, e3, e4, e5, e6⟩ := sl.out
   have hlen := sl.le
   refine .cons _ _ _ _ ?_ .nil
   show R h F (.tr e.sz l.length fun i => lN e (l.getD i (.int 0))) sv
   have hrow : ∀ i, i < l.length → ∃ row, rows[i]? = some row ∧ Rs h F (lN e (l.getD i (.int 0))) row := fun i hi => by
    refine ⟨rows[i]'om, List.getElem?_eq_getElem om, ?_⟩
    have e1 : l[i]? = some (l.getD i (.int 0)) := by simp [hi]
    exact Rp.pv hB hF (e6 i _ _ e1 (List.getElem?_eq_getElem om))
   rcases e4.at_ with ⟨q1, q2⟩ | ⟨q1, ⟨cap, q2⟩, q3, vs, q4, q5, q6⟩
   ·have hl0 : l.length = 0 := by rw [← e5, q1]; rfl
    rw [hl0]
    refine .wD _ _ _ ?_
    rcases q2 with q2 | ⟨oa, cp, q2⟩
    ·exact Or.inl q2
    ·exact Or.inr (Or.inl ⟨oa, cp, q2⟩)
   ·subst q2
    rw [← e5]
    refine .tr _ _ _ id 0 cap vs ⟨q1, om⟩ (hF id q3) q4 om (fun i hi => ?_) fun i hi => ?_
    ·obtain ⟨row, h1, h2⟩ := hrow i om
     have h3 := q6 i row h1
     have h4 := h2.len
     have h5 : (vs.drop (i * e.sz)).take e.sz = row := h3
     have h6 := Nat.mul_le_mul_right e.sz (show i + 1 ≤ rows.length by omega)
     rw [Nat.succ_mul] at h6
     rw [← h4, ← h5, List.length_take, List.length_drop]
     omega
    ·obtain ⟨row, h1, h2⟩ := hrow i om
     have h5 : (vs.drop (i * e.sz)).take e.sz = row := q6 i row h1
     rw [Nat.zero_add, h5]
     exact h2
  ·omega
theorem kE.pv {B : Nat} (hB : 9223372036854775807 ≤ B) {h : H} {F : Nat → Prop} (hF : ∀ id, id < h.n → F id) : ∀ {shs : List Sh} (pre : List Dt) {ds : List Dt} {cs : List AV}, kE B false h shs ds cs → Rs h F (Sj shs pre.length (pre ++ ds)) cs
 | [], pre, ds, cs, q => by
  obtain ⟨rfl, rfl⟩ := LV q
  exact .nil
 | s :: shs, pre, ds, cs, q => by
  obtain ⟨d, ds', a, b, rfl, rfl, q1, q2⟩ := Jp q
  have e1 : (pre ++ d :: ds').getD pre.length (.int 0) = d := by simp
  have e2 := kE.pv hB hF (pre ++ [d]) q2
  rw [List.length_append, List.length_singleton, List.append_assoc] at e2
  show Rs h F (lN s ((pre ++ d :: ds').getD pre.length (.int 0)) ++ _) (a ++ b)
  rw [e1]
  exact (Rp.pv hB hF q1).app e2
end
end
section
open Go
theorem Gr {α : Type} (w : World) (a : Ask α) : w.drawn ≤ (w.ask a).2.drawn := by
 induction a generalizing w with
 | done a => exact Nat.le_refl _
 | ask what range k ih =>
  simp only [World.ask]
  split
  ·exact ih _ _
  ·exact Nat.le_trans (Nat.le_succ _) (ih _ { w with drawn := w.drawn + 1 })
theorem Gs (w : World) (c : Sys) : w.drawn ≤ (w.sys c).2.drawn := by
 have h := Gr w (Kernel.perform c w.os)
 unfold World.sys
 split
 ·exact Nat.le_refl _
 ·rename_i hq
  rw [hq] at h
  exact h
theorem DG {p : Program} {w w' : World} {at_ : Addr} {u : TypeId} {k : Addr} {v : Value} {atomic : Bool} {l : List Addr} (h : w.viewStore p at_ u k v atomic = .ok (w', l)) : w'.drawn = w.drawn := by
 unfold World.viewStore at h
 simp only [bind, Except.bind, pure, Except.pure, throw, throwThe, MonadExceptOf.throw] at h
 repeat' split at h
 all_goals first
  | (cases h; done)
  | (cases h; rfl)
theorem Gt {p : Program} {w w' : World} {a : Addr} {v : Value} {atomic : Bool} {l : List Addr} (h : w.farStore p a v atomic = .ok (w', l)) : w'.drawn = w.drawn := by
 unfold World.farStore at h
 split at h
 ·split at h
  ·rename_i r hr
   cases h
   exact DG hr
  ·cases h
 ·cases h
theorem Gu {α : Type} {P : Program} (e : Sem α) : ∀ {w w' : World} {a : α}, e.run P w = .ok a w' → w.drawn ≤ w'.drawn := by
 induction e with
 | pure a => intro w w' a h; simp only [Sem.run] at h; cases h; exact Nat.le_refl _
 | load m a k ih =>
  intro w w' x h
  simp only [Sem.run] at h
  repeat' split at h
  all_goals first
   | (cases h; done)
   | exact ih _ h
 | store m a v k ih =>
  intro w w' x h
  have key : (match w.cell? a with
   | some _ => if w.frozen? a then Result.halt (.unsupported (.unsafePointer "a write to bytes that a string shares")) w else k.run P (w.setCell a v)
   | none => match w.farStore P a v (m == Mode.atomic) with
    | .ok (w, _) => k.run P w
    | .error h => .halt h w) = .ok x w' ∨ False := by
   cases v <;> first
    | exact Or.inl h
    | (simp only [Sem.run] at h; cases h)
  rcases key with key | key
  ·split at key
   ·split at key
    ·cases key
    ·have := ih key
     exact this
   ·split at key
    ·rename_i w2 l hf
     have := ih key
     rw [Gt hf] at this
     exact this
    ·cases key
  ·exact key.elim
 | new o k ih => intro w w' x h; simp only [Sem.run] at h; have := ih _ h; exact this
 | shape r k ih => intro w w' x h; simp only [Sem.run] at h; exact ih _ h
 | freeze a n k ih =>
  intro w w' x h
  simp only [Sem.run] at h
  have := ih h
  unfold World.freeze at this
  split at this <;> exact this
 | frozen a k ih => intro w w' x h; simp only [Sem.run] at h; exact ih _ h
 | getObj r k ih =>
  intro w w' x h
  simp only [Sem.run] at h
  repeat' split at h
  all_goals first
   | (cases h; done)
   | exact ih _ h
 | setObj r o k ih =>
  intro w w' x h
  simp only [Sem.run] at h
  repeat' split at h
  all_goals first
   | (cases h; done)
   | (have := ih h; exact this)
 | choose q k ih =>
  intro w w' x h
  simp only [Sem.run] at h
  split at h
  ·exact ih _ h
  ·have := ih _ h; exact Nat.le_trans (Nat.le_succ _) this
 | sys c k ih => intro w w' x h; simp only [Sem.run] at h; exact Nat.le_trans (Gs w c) (ih _ h)
 | program k ih => intro w w' x h; simp only [Sem.run] at h; exact ih _ h
 | mark m k ih => intro w w' x h; simp only [Sem.run] at h; exact ih h
 | halt h => intro w w' x h; simp only [Sem.run] at h; cases h
theorem oH {F : Fence} {n : Nat} {P : Program} (w : World) {ops : Array Oper} {rest : List Oper} {o : Oper} {a : Act} {Q : Exit → Act → World → Prop}
    (hg : o.guard = none) (s x : Operand) (t : TypeId) (hop : o.op = Op.call { callee := Callee.builtin Builtin.append, args := #[s, x], argTypes := #[t, t] })
    (base : Nat) (e : TypeId) (i : TypeInfo) (z : Value) (size bytes : Nat) (h1 : P.underlying t = some (.slice e)) (h2 : P.info? e = some i) (h3 : i.zero = some z) (h4 : i.size = size) (h5 : i.bytes = bytes) (h6 : z.cells.size = size) (h7 : 0 < size)
    (v : Value) (k : Nat) (xs : List Value) (hs : a.eval s = v) (hown : w.ownsRow base e size v k xs) (ad : Addr) (m c : Nat) (news : List Value) (hx : a.eval x = .slice (some ad) m c) (hn : news.length = m * size)
    (hc : ∀ j u, news[j]? = some u → w.cell? (ad.add j) = some u) (h1c : ∀ u ∈ news, u.oneCell' = true) (b1 : k + m ≤ maxLen) (b2 : (k + m) * bytes ≤ 140737488355328) (b3 : base ≤ w.heap.size)
    (hK : ∀ v' w', w'.ownsRow base e size v' (k + m) (xs ++ news) → w.grownBy w' v.ownBlock → (v' = .slice none 0 0 ↔ v = .slice none 0 0 ∧ m = 0) → w.drawn ≤ w'.drawn → wpListIn F n P ops Q rest (a.put o.dst v') w') :
    wpListIn F n P ops Q (o :: rest) a w := by
 refine wpListIn_plain hg fun K hK' => ?_
 obtain ⟨v', w', hrun, r1, r2, r3⟩ := run_append_own (P := P) w base t o.type e i z size bytes h1 h2 h3 h4 h5 h6 h7 v k xs hown ad m c news hn hc h1c b1 b2 b3
 unfold Oper.wpIn
 refine ⟨?_, ?_⟩
 ·simp [Oper.about, hop, resolve, Target.leads, Sem.run_pure]
 ·rw [Oper.semAt_plain F _ _ (by rw [hop]; intro c hc'; cases hc')]
  simp [execOp, hop, resolve, invoke, builtin, hs, hx, hrun, Result.andThen]
  exact hK' _ _ (hK v' w' r1 r2 r3 (Gu _ hrun))
end
section
open Go Go.Sort Go.Proofs
section
variable {α : Type} [Inhabited α] {enc : α → List Value} {k : Nat}
theorem rG (hk : ∀ x, (enc x).length = k) : ∀ (l : List α), (l.flatMap enc).length = l.length * k
 | [] => by simp
 | x :: l => by
  rw [List.flatMap_cons, List.length_append, hk, rG hk l, List.length_cons, Nat.add_mul, Nat.one_mul, Nat.add_comm]
theorem vD (hk : ∀ x, (enc x).length = k) : ∀ (l : List α) (t : Nat), t < l.length * k → (l.flatMap enc)[t]? = some (enc l[t / k]!)[t % k]!
 | [], t, h => by simp at h
 | x :: l, t, h => by
  have k0 : 0 < k := by
   rcases Nat.eq_zero_or_pos k with q | q
   ·rw [q, Nat.mul_zero] at h; omega
   ·exact q
  rw [List.flatMap_cons]
  rcases Nat.lt_or_ge t k with q | q
  ·rw [List.getElem?_append_left (by rw [hk]; exact q), Nat.div_eq_of_lt q, Nat.mod_eq_of_lt q]
   have : t < (enc x).length := by rw [hk]; exact q
   simp [this]
  ·rw [List.getElem?_append_right (by rw [hk]; exact q), hk]
   have h2 : t - k < l.length * k := by rw [List.length_cons, Nat.add_mul, Nat.one_mul] at h; omega
   rw [vD hk l (t - k) h2]
   obtain ⟨u, rfl⟩ : ∃ u, t = u + k := ⟨t - k, om⟩
   rw [Nat.add_sub_cancel, Nat.add_div_right u k0, Nat.add_mod_right]
   simp
theorem DH (hk : ∀ x, (enc x).length = k) (l : List α) : (flatK enc k l.toArray).toList = l.flatMap enc := by
 apply List.ext_getElem?
 intro t
 by_cases h : t < l.length * k
 ·rw [vD hk l t h, Array.getElem?_toList]
  have h1 : t < (flatK enc k l.toArray).size := by rw [size_flatK]; simpa using h
  rw [Array.getElem?_eq_getElem h1, ← getElem!_pos _ t h1, get_flatK enc k _ t (by simpa using h)]
  simp
 ·rw [List.getElem?_eq_none (by simp; omega), List.getElem?_eq_none (by rw [rG hk]; omega)]
variable {w : World} {g base cap : Nat} {cur : Array Value} {e : TypeId} {l : List α}
theorem Fq (hk : ∀ x, (enc x).length = k) (hb : w.heap[g]? = some (.cells cur e (0, 0))) (ht : cur.toList.take (l.length * k) = l.flatMap enc) : HoldsK enc k w g 0 l.toArray := by
 intro j hj
 have hj' : j < l.length * k := by simpa using hj
 refine ⟨?_, by simp [World.frozen?, hb]⟩
 have h1 : (cur.toList.take (l.length * k))[j]? = (l.flatMap enc)[j]? := by rw [ht]
 rw [List.getElem?_take_of_lt hj', vD hk l j hj'] at h1
 simp only [World.cell?, hb, Nat.zero_add]
 simp only [Option.isSome_none, Bool.false_eq_true, if_false]
 rw [← Array.getElem?_toList, h1, get_flatK enc k _ j (by simpa using hj')]
 simp
theorem zw {n : Nat} {os : Array Obj} {fr : Nat × Nat} (d : Array α) (hb : w.heap[g]? = some (.cells cur e fr)) :
    (sortWorldK enc k w g 0 n d os).heap[g]? = some (.cells (putCells id 0 (flatK enc k d) cur) e fr) := by
 have hg : g < w.heap.size := (Array.getElem?_eq_some_iff.1 hb).1
 show (grow (putRow id (Sort.ahead w n) g 0 (flatK enc k d)) os).heap[g]? = _
 rw [heap_grow_old _ _ (by simpa using hg)]
 simp [putRow, mapBlock, Sort.ahead, Array.getElem?_modify, hb, onCells]
theorem s9 {n : Nat} {os : Array Obj} (d : Array α) : w.grownBy (sortWorldK enc k w g 0 n d os) (some g) := by
 show w.grownBy (grow (putRow id (Sort.ahead w n) g 0 (flatK enc k d)) os) (some g)
 refine ⟨rfl, rfl, rfl, by simp, fun j hj hne => ?_⟩
 rw [heap_grow_old _ _ (by simpa using hj)]
 have : g ≠ j := fun e => hne (by rw [e])
 simp [putRow, mapBlock, Sort.ahead, Array.getElem?_modify, this]
theorem Gw (cur : Array Value) (F : Array Value) (h : F.size ≤ cur.size) : (putCells id 0 F cur).toList.take F.size = F.toList := by
 apply List.ext_getElem?
 intro j
 by_cases hj : j < F.size
 ·rw [List.getElem?_take_of_lt hj, Array.getElem?_toList]
  simp [putCells, hj, show j < cur.size by omega]
 ·rw [List.getElem?_take_eq_none (by omega), List.getElem?_eq_none (by simp; omega)]
theorem ta (hk : ∀ x, (enc x).length = k) {n : Nat} {os : Array Obj} {ts : List α} (hl : ts.length = l.length) (hbase : base ≤ g) (hb : w.heap[g]? = some (.cells cur e (0, 0)))
    (h1 : l.length ≤ cap) (h2 : cap ≤ maxLen) (h3 : cur.size = cap * k) :
    (sortWorldK enc k w g 0 n ts.toArray os).ownsRow base e k (.slice (some ⟨g, 0, none⟩) l.length cap) l.length (ts.flatMap enc) := by
 refine ⟨by rw [rG hk, hl], .inr ⟨g, cap, _, rfl, hbase, zw _ hb, h1, h2, by simp [putCells, h3], ?_⟩⟩
 have hs : (flatK enc k ts.toArray).size = l.length * k := by rw [size_flatK]; simp [hl]
 have := Gw cur (flatK enc k ts.toArray) (by rw [hs, h3]; exact Nat.mul_le_mul_right k h1)
 rw [hs, DH hk] at this
 exact this
end
end
end Go.Proofs.YtgaihilgffficaaGreatDoor.Ev
