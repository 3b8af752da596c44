/- CoverStates, part 38 -/
import Derived.Test.YtgaihilgffficaaGreatDoorCyC
set_option linter.all false
set_option maxHeartbeats 4000000
namespace Go.Proofs.YtgaihilgffficaaGreatDoor.Ev
open Go
open Classical
def CX (a : nP) : Int × Int × Int := (a.fn, a.ins, a.site)
theorem Kp {a b : nP} (h : CX a = CX b) : a = b := by
 cases a; cases b
 simp only [CX, Prod.mk.injEq] at h
 obtain ⟨rfl, rfl, rfl⟩ := h
 rfl
theorem mf {a b : nP} : ∀ {l : List nP}, b ∈ iZ l a ↔ b ∈ l ∨ b = a
 | [] => by rw [iZ]; simp
 | x :: l => by
  rw [iZ]
  by_cases q : dO x a
  ·rw [if_pos q, List.mem_cons, List.mem_cons, mf, or_assoc]
  ·rw [if_neg q]
   by_cases q2 : x = a
   ·rw [if_pos q2]
    constructor
    ·exact Or.inl
    ·rintro (w | w)
     ·exact w
     ·rw [w, q2]; simp
   ·rw [if_neg q2, List.mem_cons]
    constructor
    ·rintro (w | w)
     ·exact Or.inr w
     ·exact Or.inl w
    ·rintro (w | w)
     ·exact Or.inr w
     ·exact Or.inl w
theorem AN {a b c : nP} (h1 : dO a b) (h2 : dO b c) : dO a c := by
 unfold dO at *
 omega
theorem Fk {a b : nP} (h1 : ¬ dO a b) (h2 : ¬ a = b) : dO b a := by
 refine Classical.byContradiction fun q => h2 (Kp ?_)
 unfold dO at *
 unfold CX
 have e1 : a.fn = b.fn := by omega
 have e2 : a.ins = b.ins := by omega
 have e3 : a.site = b.site := by omega
 rw [e1, e2, e3]
theorem rW {a : nP} : ∀ {l : List nP}, l.Pairwise dO → (iZ l a).Pairwise dO
 | [], _ => by rw [iZ]; simp
 | x :: l, h => by
  obtain ⟨h1, h2⟩ := List.pairwise_cons.1 h
  rw [iZ]
  by_cases q : dO x a
  ·rw [if_pos q]
   refine List.pairwise_cons.2 ⟨fun b hb => ?_, rW h2⟩
   rcases mf.1 hb with w | w
   ·exact h1 b w
   ·rw [w]; exact q
  ·rw [if_neg q]
   by_cases q2 : x = a
   ·rw [if_pos q2]; exact h
   ·rw [if_neg q2]
    have q3 := Fk q q2
    refine List.pairwise_cons.2 ⟨fun b hb => ?_, h⟩
    rcases List.mem_cons.1 hb with w | w
    ·rw [w]; exact q3
    ·exact AN q3 (h1 b w)
theorem uD {u : aK} {p : cZ} {x : rU} : ∀ {i : Nat}, (eO u p x i).2.Pairwise dO
 | 0 => List.Pairwise.nil
 | i + 1 => by
  have h := uD (u := u) (p := p) (x := x) (i := i)
  rw [eO]
  split
  ·dsimp only
   split
   ·exact rW h
   ·exact h
  ·exact h
theorem CY {l : List nP} (h : l.Pairwise dO) : (l.map CX).Pairwise fun a b => rX a b = true := by
 rw [List.pairwise_map]
 exact h.imp fun q => dU.2 q
noncomputable def fI (u : aK) (p : cZ) (x : rU) (j : Nat) : Int → Option PV := fun k => ((eO u p x j).1 k).map (PV.int .i64)
noncomputable def fT (u : aK) (p : cZ) (x : rU) (j : Nat) : Int × Int × Int → Option PV := fun t => if t ∈ (eO u p x j).2.map CX then some (.bool true) else none
theorem D3 {u : aK} {p : cZ} {x : rU} {j : Nat} {t : Int × Int × Int} : fT u p x j t = none ↔ ¬ t ∈ (eO u p x j).2.map CX := by
 unfold fT
 split
 ·rename_i h; simp [h]
 ·rename_i h; simp [h]
theorem HA {u : aK} {p : cZ} {x : rU} {j : Nat} {a : nP} (h : (eO u p x (j + 1)).2 = iZ (eO u p x j).2 a) (t : Int × Int × Int) : (if t = CX a then some (PV.bool true) else fT u p x j t) = fT u p x (j + 1) t := by
 have hm : t ∈ (eO u p x (j + 1)).2.map CX ↔ t ∈ (eO u p x j).2.map CX ∨ t = CX a := by
  rw [h, List.mem_map, List.mem_map]
  constructor
  ·rintro ⟨b, hb, e⟩
   rcases mf.1 hb with w | w
   ·exact Or.inl ⟨b, w, e⟩
   ·exact Or.inr (by rw [← e, w])
  ·rintro (⟨b, hb, e⟩ | e)
   ·exact ⟨b, mf.2 (Or.inl hb), e⟩
   ·exact ⟨a, mf.2 (Or.inr rfl), e.symm⟩
 unfold fT
 by_cases q : t = CX a
 ·rw [if_pos q, if_pos (hm.2 (Or.inr q))]
 ·rw [if_neg q]
  by_cases w : t ∈ (eO u p x j).2.map CX
  ·rw [if_pos w, if_pos (hm.2 (Or.inl w))]
  ·rw [if_neg w, if_neg (fun z => (hm.1 z).elim w q)]
theorem Kq {u : aK} {p : cZ} {x : rU} {j : Nat} {k : Int} {v : PV} (h : fI u p x j k = some v) : ∃ s, (eO u p x j).1 k = some s ∧ v = .int .i64 s := by
 unfold fI at h
 cases e : (eO u p x j).1 k with
 | none => rw [e] at h; cases h
 | some s => rw [e] at h; cases h; exact ⟨s, rfl, rfl⟩
theorem D5 {u : aK} {p : cZ} {x : rU} {j : Nat} {k : Int} (h : fI u p x j k = none) : (eO u p x j).1 k = none := by
 unfold fI at h
 cases e : (eO u p x j).1 k with
 | none => rfl
 | some s => rw [e] at h; cases h
theorem AO {S : aX} {q idm : Nat} {K : PV → aX → Prop} (k : ∀ b, K (.fn 59 [.ptr 1 b 0]) ((1, some b, .cells [.qD q idm]) :: S)) : lP Tryz.prog X0 Mx 24 [.qD q idm] S K := by
 have hnt : (4 : Nat) ≤ 1000000 := by decide
 refine iz At (jB _) (by simp) hnt ?_
 repeat' (first | refine Qb ?_ | (refine aj ?_; intro b))
 exact ⟨Or.inr rfl, ⟨trivial, trivial⟩, _, rfl, k b⟩
theorem D6 {u : aK} {p : cZ} {x : rU} {j : Nat} {n s2 : Int} (h : (eO u p x (j + 1)).1 = fun k => if k = n then some s2 else (eO u p x j).1 k) (k : Int) : (if k = n then some (PV.int .i64 s2) else fI u p x j k) = fI u p x (j + 1) k := by
 unfold fI
 rw [h]
 dsimp only
 by_cases q : k = n
 ·rw [if_pos q, if_pos q]; rfl
 ·rw [if_neg q, if_neg q]
theorem jb {u : aK} {p : cZ} {x : rU} {n : Int} {K : PV → Prop} (hu : xM u = 0) (hx : Kg u n x) (hn : n ≤ 300) (ke : ¬ sY p = 0 → K (.bO [.aO, .int .i64 (sY p)])) (k : sY p = 0 → K (.bO [pA (eO u p x x.bo.length).2, .int .i64 0])) : PF Tryz.prog X0 Mx 6 [.agg (bQ u), .agg (eZ p), .agg (Kc x)] K := by
 refine Pf tW fun hnt => ?_
 have uo := Re hu
 have ct := uo.hv.ok.ct
 have qW := uo.f256
 have BY : ∀ i, i < u.fns.length → (el u.fns i).code.length ≤ 1024 := fun i hi => (uo.fn i hi).Q2
 have hlen := hx.len
 repeat' (first | refine Qb ?_ | (refine ai ?_; intro hl) | (refine aj ?_; intro b) | (refine Ba ?_ ?_ <;> intro hc <;> try exact Zb) | (refine aq (ao (CO (fun a c => ?_)))) | refine aq (ao (kn ?_)) | (refine aq (ao (pM qW BY (fun idr => ?_)))) | (refine CH (d := 40) ?_ .m; intro bI) | (refine Ni (d := 41) ?_ .m; intro bT) | refine pb ?_)
 rotate_left
 ·have k2 := ke am; exact E1 k2
 have hp : sY p = 0 := by assumption
 have k := k hp
 refine aJ (fun j : Nat => [(3, .ptr 3 _ 0), (4, .ptr 4 _ 0), (12, .fp (Hw u x idr) 0), (13, .qD 40 bI), (14, .qD 41 bT), (45, pL 5 nA x.bo), (46, .int .i64 (x.bo.length : Nat)), (47, .int .i64 (j : Nat))]) (fun j => [(3, some _, .cells (bQ u)), (4, some _, .cells (eZ p)), (40, some bI, .ix (fI u p x j)), (41, some bT, .jc (fT u p x j))]) (fun j => j ≤ x.bo.length) (fun j => x.bo.length - j) 0 (Nat.zero_le _) .su (.c (.c (.cons rfl (.ix _ _ fun k => rfl) (.cons rfl (.jc _ _ fun t => by show none = fT u p x 0 t; rw [D3.2]; simp [eO]) .nil)))) ?_
 intro j hj
 by_cases hlt : j < x.bo.length
 ·have ho := hx.bo _ (b8 hlt)
  have f4 := ho.st
  have hsl := wT (u := u)
  have f6 : (oF (el x.bo j) (dK u (el x.bo j)).a).kind = 3 → 0 ≤ (oF (el x.bo j) (dK u (el x.bo j)).a).site ∧ (oF (el x.bo j) (dK u (el x.bo j)).a).site < (gJ u).length := fun h3 => by
   unfold oF at h3 ⊢
   split at h3
   ·rename_i hr
    rw [if_pos hr]
    have := f4 (dK u (el x.bo j)).a.toNat om h3
    omega
   ·exact absurd h3 (by show (0 : Int) ≠ 3; decide)
  repeat' (first | refine Qb ?_ | (refine ai ?_; intro hl) | (refine aj ?_; intro b) | (refine Ba ?_ ?_ <;> intro hc <;> try exact Zb) | refine aG ?_ | refine pd ?_ | refine aq (ao (ma ho ?_)) | (refine aq (ao (lM (i := j) om om (fun hc => ?_) fun hc => ?_))) | refine aq (ao (wv ?_)) | refine bG (us := bh u.cl) ?_ rfl rfl ⟨by show 1 ≤ 3; decide, rfl⟩ | (refine dW (aM (pC ct (fun hc => ?_) fun hc => ?_))) | (refine dW (aM (me am (f6 am).1 (f6 am).2 ?_))) | (refine Au ?_ ?_; (intro v hv; obtain ⟨s, hs, rfl⟩ := Kq hv); rotate_left; intro hv; rotate_left) | refine aq (ao (sZ ?_)) | (refine Nj (k := CX (Hy u x j (oF (el x.bo j) (dK u (el x.bo j)).a))) ?_) | (refine Hm (k := (oF (el x.bo j) (dK u (el x.bo j)).a).n) ?_) | refine pb ?_)
  all_goals first
   | (refine cut (p := ¬ (Km u x j ∧ Hx u p x j)) ?_ (fun hno => ?_); (focus (intro w; first | exact absurd w.1.1 am | exact absurd w.1.2 am | exact absurd w.2.1 am | exact absurd w.2.2 am)); have hst := CW hno; exact ⟨j + 1, by dsimp only; omega, om, .su, .c (.c (.cons rfl (.ix _ _ (fun k => by unfold fI; rw [hst])) (.cons rfl (.jc _ _ (fun t => by unfold fT; rw [hst])) .nil)))⟩)
   | (refine cut (p := Km u x j ∧ Hx u p x j) ?_ (fun hEC => ?_); (focus (exact ⟨⟨am, am⟩, ⟨am, am⟩⟩)); have hst := pO (v := (oF (el x.bo j) (dK u (el x.bo j)).a)) (s := s) hEC rfl (by rw [hs]; rfl); (refine cut (p := (eO u p x (j + 1)).2 = (eO u p x j).2) ?_ (fun hA => ?_); (focus (rw [hst]; refine if_neg (fun w => ?_); first | exact w.1 am | exact absurd w.2 am)); exact ⟨j + 1, by dsimp only; omega, om, .su, .c (.c (.cons rfl (.ix _ _ (D6 (by rw [hst]))) (.cons rfl (.jc _ _ (fun t => by unfold fT; rw [hA])) .nil)))⟩))
   | (refine cut (p := Km u x j ∧ Hx u p x j) ?_ (fun hEC => ?_); (focus (exact ⟨⟨am, am⟩, ⟨am, am⟩⟩)); have hst := pO (v := (oF (el x.bo j) (dK u (el x.bo j)).a)) (s := s) hEC rfl (by rw [hs]; rfl); (refine cut (p := (eO u p x (j + 1)).2 = iZ (eO u p x j).2 (Hy u x j (oF (el x.bo j) (dK u (el x.bo j)).a))) ?_ (fun hA => ?_); (focus (rw [hst]; exact if_pos ⟨am, am⟩)); exact ⟨j + 1, by dsimp only; omega, om, .su, .c (.c (.cons rfl (.ix _ _ (D6 (by rw [hst]))) (.cons rfl (.jc _ _ (HA hA)) .nil)))⟩))
   | (refine cut (p := Km u x j ∧ Hx u p x j) ?_ (fun hEC => ?_); (focus (exact ⟨⟨am, am⟩, ⟨am, am⟩⟩)); have hst := pO (v := (oF (el x.bo j) (dK u (el x.bo j)).a)) (s := p.start) hEC rfl (by rw [D5 hv]; rfl); (refine cut (p := (eO u p x (j + 1)).2 = (eO u p x j).2) ?_ (fun hA => ?_); (focus (rw [hst]; refine if_neg (fun w => ?_); first | exact w.1 am | exact absurd w.2 am)); exact ⟨j + 1, by dsimp only; omega, om, .su, .c (.c (.cons rfl (.ix _ _ (D6 (by rw [hst]))) (.cons rfl (.jc _ _ (fun t => by unfold fT; rw [hA])) .nil)))⟩))
   | (refine cut (p := Km u x j ∧ Hx u p x j) ?_ (fun hEC => ?_); (focus (exact ⟨⟨am, am⟩, ⟨am, am⟩⟩)); have hst := pO (v := (oF (el x.bo j) (dK u (el x.bo j)).a)) (s := p.start) hEC rfl (by rw [D5 hv]; rfl); (refine cut (p := (eO u p x (j + 1)).2 = iZ (eO u p x j).2 (Hy u x j (oF (el x.bo j) (dK u (el x.bo j)).a))) ?_ (fun hA => ?_); (focus (rw [hst]; exact if_pos ⟨am, am⟩)); exact ⟨j + 1, by dsimp only; omega, om, .su, .c (.c (.cons rfl (.ix _ _ (D6 (by rw [hst]))) (.cons rfl (.jc _ _ (HA hA)) .nil)))⟩))
 ·have hje : j = x.bo.length := by omega
  have hsl := pN (u := u) (p := p) (x := x) (i := j)
  rw [← hje] at k
  repeat' (first | refine Qb ?_ | (refine ai ?_; intro hl) | (refine aj ?_; intro b) | (refine Ba ?_ ?_ <;> intro hc <;> try exact Zb) | (refine aq (AO (fun b1 => ?_))) | (refine aq (CZ (T := 130) (ks := (eO u p x j).2.map CX) (g := fT u p x j) (fun _ _ _ => rfl) rfl rfl (CY uD) (fun t => D3) (by rw [List.length_map]; omega) (fun e0 => ?_) (fun e0 id9 => ?_))) | refine pb ?_)
  ·have e1 : (eO u p x j).2 = [] := List.map_eq_nil_iff.1 e0
   rw [e1] at k
   exact E1 k
  ·rw [AK (List.length_pos_iff.2 fun q => e0 (by rw [q]; rfl))] at k
   exact ⟨Or.inr rfl, ⟨trivial, ⟨trivial, trivial⟩⟩, _, _, rfl, .bO _ _ (.cons _ _ _ _ (by rw [List.length_map]; exact .own _ _ _ _ _ _ _ rfl (Nat.le_refl _) fun i hi => c5.of_eq (by rw [cQ hi]; rfl)) (.cons _ _ _ _ (.refl _) .nil)), k⟩
theorem ep {K : PV → Prop} (k : K (.bool true)) : PF Tryz.prog X0 Mx 4 [] K := fun c h F _ st r => by
 cases r
 exact uE (v := .bool true) (h' := h) rfl ⟨_, [], F, Ext.refl _ _ _, st, .bool true, k⟩
theorem pQ {u : aK} {p : cZ} {fe : List Int} {K : PV → Prop} (ha : ∀ i, i < u.fns.length → ∀ j, j < (el u.fns i).code.length → (el (el u.fns i).code j).args.length ≤ fZ) (k : K (.bool true)) : PF Tryz.prog X0 Mx 3 [.agg (bQ u), .agg (eZ p), pL 1 pI fe] K := by
 refine Pf jD fun hnt => ?_
 repeat' (first | refine Qa ?_ | (refine Ba ?_ ?_ <;> try exact Za) | refine aq (ao (ep ?_)) | (refine aq (ao (Fj ha ?_ (fun hu x hx hn => ?_)))) | intro hc)
 all_goals try exact E1 k
 by_cases hp : sY p = 0
 ·rcases hL : (eO u p x x.bo.length).2 with _ | ⟨y, l⟩
  ·have hV : pA (eO u p x x.bo.length).2 = .aO := by rw [hL]; rfl
   repeat' (first | refine Qa ?_ | rw [hV] | (refine Ba ?_ ?_ <;> try exact Za) | refine aq (ao (ep ?_)) | (refine aq (ao (jb hu hx hn (fun q => absurd hp q) (fun _ => ?_)))) | (refine aq (ao (kR hu hx hn ha (fun q => absurd hp q) (fun _ => ?_)))) | intro hc)
   refine aJ (fun j : Nat => [(9, .aO), (11, .aO), (13, .int .i64 (j : Nat))]) (fun _ => []) (fun j => j = 0) (fun j => 0) 0 rfl .su .nil ?_
   rintro j rfl
   repeat' (first | refine Qa ?_ | (refine Ba ?_ ?_ <;> try exact Za) | refine aq (ao (ep ?_)) | intro hc)
   exact E1 k
  ·have hV : pA (eO u p x x.bo.length).2 = pL 3 AG (y :: l) := by rw [hL]; rfl
   repeat' (first | refine Qa ?_ | rw [hV] | (refine Ba ?_ ?_ <;> try exact Za) | refine aq (ao (ep ?_)) | (refine aq (ao (jb hu hx hn (fun q => absurd hp q) (fun _ => ?_)))) | (refine aq (ao (kR hu hx hn ha (fun q => absurd hp q) (fun _ => ?_)))) | intro hc)
   refine aJ (fun j : Nat => [(9, pL 3 AG (y :: l)), (11, pL 3 AG (y :: l)), (13, .int .i64 (j : Nat))]) (fun _ => []) (fun j => j ≤ (y :: l).length) (fun j => (y :: l).length - j) 0 (Nat.zero_le _) .su .nil ?_
   intro j hj
   by_cases hlt : j < (y :: l).length
   ·repeat' (first | refine Qa ?_ | (refine Ba ?_ ?_ <;> try exact Za) | (refine CU ?_ ?_ <;> intro hc <;> try contradiction) | intro hc)
    exact ⟨j + 1, by dsimp only; omega, om, .su, .nil⟩
   ·repeat' (first | refine Qa ?_ | (refine Ba ?_ ?_ <;> try exact Za) | refine aq (ao (ep ?_)) | intro hc)
    exact E1 k
 ·repeat' (first | refine Qa ?_ | (refine Ba ?_ ?_ <;> try exact Za) | refine aq (ao (ep ?_)) | (refine aq (ao (jb hu hx hn (fun _ => ?_) (fun q => absurd q hp)))) | (refine aq (ao (kR hu hx hn ha (fun _ => ?_) (fun q => absurd q hp)))) | intro hc)
  refine aJ (fun j : Nat => [(9, .aO), (11, .aO), (13, .int .i64 (j : Nat))]) (fun _ => []) (fun j => j = 0) (fun j => 0) 0 rfl .su .nil ?_
  rintro j rfl
  repeat' (first | refine Qa ?_ | (refine Ba ?_ ?_ <;> try exact Za) | refine aq (ao (ep ?_)) | intro hc)
  exact E1 k
def HB : Sh := .row [.str, .str]
def Mj : Sh := .row [.str, .bool, .arr .str, .str]
def Ml : Sh := .row [.str, .str, .arr HB, .arr Mj]
def Mm : Sh := .row [.int .i64, .int .i64, .int .i64, .int .i64, .int .i64, .str, .str, .arr (.int .i64), .int .i64, .int .i64]
def PN : Sh := .row [.str, .str, .bool, .int .i64, .arr HB, .str, .arr Mm]
def AP : Sh := .row [.row [.arr Ml], .arr PN, .int .i64]
def PQ : Sh := .row [.int .i64, .str, .int .i64]
def wW : Sh := .row [.str, .arr .str, .int .i64, .int .i64, .arr PQ]
def HC (d : Dt) : ju := ⟨(d.f 0).s, (d.f 1).s⟩
def Mn (d : Dt) : cz := ⟨(d.f 0).s, (d.f 1).b, (d.f 2).l.map Dt.s, (d.f 3).s⟩
def Mo (d : Dt) : aU := ⟨(d.f 0).s, (d.f 1).s, (d.f 2).l.map HC, (d.f 3).l.map Mn⟩
def HD (d : Dt) : bJ := ⟨(d.f 0).n, (d.f 1).n, (d.f 2).n, (d.f 3).n, (d.f 4).n, (d.f 5).s, (d.f 6).s, (d.f 7).l.map Dt.n, (d.f 8).n, (d.f 9).n⟩
def HE (d : Dt) : dN := ⟨(d.f 0).s, (d.f 1).s, (d.f 2).b, (d.f 3).n, (d.f 4).l.map HC, (d.f 5).s, (d.f 6).l.map HD⟩
def nQ (d : Dt) : aK := ⟨((d.f 0).f 0).l.map Mo, (d.f 1).l.map HE, (d.f 2).n⟩
def PR (d : Dt) : nN := ⟨(d.f 0).n, (d.f 1).s, (d.f 2).n⟩
def Mq (d : Dt) : cZ := ⟨(d.f 0).s, (d.f 1).l.map Dt.s, (d.f 2).n, (d.f 3).n, (d.f 4).l.map PR⟩
theorem jd {α : Type} [Inhabited α] {e : Sh} {n : Nat} {f : α → List PV} {to : Dt → α} (hn : e.sz = n) (h : ∀ d, C0 (lN e d) (f (to d))) (d : Dt) : C0 (lN (.arr e) d) [pL n f (d.l.map to)] := by
 subst hn
 refine .cons _ _ _ _ ?_ .nil
 unfold pL
 rw [List.length_map]
 exact .tr _ _ _ _ fun i hi => by rw [cQ hi]; exact h _
theorem c5.s6 {S : aX} : ∀ {a b : List PV} {c d : List PV}, c5 S a b → c5 S c d → c5 S (a ++ c) (b ++ d)
 | _, _, _, _, .nil, h => h
 | _, _, _, _, .cons _ _ _ _ q1 q2, h => .cons _ _ _ _ q1 (c5.s6 q2 h)
theorem HF (d : Dt) : C0 (lN .str d) (pS d.s) := c5.refl _
theorem HG (d : Dt) : C0 (lN (.int .i64) d) (pI d.n) := c5.refl _
theorem HH (d : Dt) : C0 (lN HB d) (tI (HC d)) := c5.refl _
theorem Nk (d : Dt) : C0 (lN Mj d) (cL (Mn d)) := .cons _ _ _ _ (.refl _) (.cons _ _ _ _ (.refl _) (c5.s6 (jd (n := 1) rfl HF (d.f 2)) (.cons _ _ _ _ (.refl _) .nil)))
theorem Nn (d : Dt) : C0 (lN Ml d) (ia (Mo d)) := .cons _ _ _ _ (.refl _) (.cons _ _ _ _ (.refl _) (c5.s6 (jd (n := 2) rfl HH (d.f 2)) (c5.s6 (jd (n := 4) rfl Nk (d.f 3)) .nil)))
theorem Np (d : Dt) : C0 (lN Mm d) (fw (HD d)) := .cons _ _ _ _ (.refl _) (.cons _ _ _ _ (.refl _) (.cons _ _ _ _ (.refl _) (.cons _ _ _ _ (.refl _) (.cons _ _ _ _ (.refl _) (.cons _ _ _ _ (.refl _) (.cons _ _ _ _ (.refl _) (c5.s6 (jd (n := 1) rfl HG (d.f 7)) (.cons _ _ _ _ (.refl _) (.cons _ _ _ _ (.refl _) .nil)))))))))
theorem PS (d : Dt) : C0 (lN PN d) (lA (HE d)) := .cons _ _ _ _ (.refl _) (.cons _ _ _ _ (.refl _) (.cons _ _ _ _ (.refl _) (.cons _ _ _ _ (.refl _) (c5.s6 (jd (n := 2) rfl HH (d.f 4)) (.cons _ _ _ _ (.refl _) (c5.s6 (jd (n := 10) rfl Np (d.f 6)) .nil))))))
theorem Nq (d : Dt) : C0 (lN AP d) (bQ (nQ d)) := c5.s6 (c5.s6 (jd (n := 4) rfl Nn ((d.f 0).f 0)) .nil) (c5.s6 (jd (n := 7) rfl PS (d.f 1)) (.cons _ _ _ _ (.refl _) .nil))
theorem PT (d : Dt) : C0 (lN PQ d) (Ph (PR d)) := c5.refl _
theorem Nr (d : Dt) : C0 (lN wW d) (eZ (Mq d)) := .cons _ _ _ _ (.refl _) (c5.s6 (jd (n := 1) rfl HF (d.f 1)) (.cons _ _ _ _ (.refl _) (.cons _ _ _ _ (.refl _) (c5.s6 (jd (n := 3) rfl PT (d.f 4)) .nil))))
theorem Kr {B : Nat} (hB : 9223372036854775807 ≤ B) {c : C} {h : H} {d1 d2 d3 : Dt} {c1 c2 c3 : List AV} (hc : Cx c h) (hv : ∀ id, seen c.cM id = true) (hg : jQ h fun id => id < h.n) (r1 : Rp B false h AP d1 c1) (r2 : Rp B false h wW d2 c2) (r3 : Rp B false h (.arr (.int .i64)) d3 c3)
    (ha : ∀ i, i < (nQ d1).fns.length → ∀ j, j < (el (nQ d1).fns i).code.length → (el (el (nQ d1).fns i).code j).args.length ≤ fZ) : Gv Tryz.prog X0 Mx c 3 (.agg c1 :: .agg c2 :: c3) h fun v _ => v = .bool true := by
 have st : St c h (fun id => id < h.n) [] := St.nil hc hg fun id q => ⟨q, hv id⟩
 have e1 := (Nq d1).cv st (Rp.pv hB (fun id q => q) r1)
 have e2 := (Nr d2).cv st (Rp.pv hB (fun id q => q) r2)
 have e3 := (jd (n := 1) rfl HG d3).cv st (Rp.pv hB (F := fun id => id < h.n) (fun id q => q) r3)
 have w : PF Tryz.prog X0 Mx 3 [.agg (bQ (nQ d1)), .agg (eZ (Mq d2)), pL 1 pI (d3.l.map Dt.n)] fun v => v = .bool true := pQ ha rfl
 refine (w c h _ _ st (.cons _ _ _ _ (.agg _ _ e1) (.cons _ _ _ _ (.agg _ _ e2) e3))).mono fun v h' ⟨p, S', F', _, _, r, e⟩ => ?_
 subst e
 cases r
 rfl
end Go.Proofs.YtgaihilgffficaaGreatDoor.Ev
