/- CoverStates, part 18 -/
import Derived.Test.YtgaihilgffficaaGreatDoorPvA
set_option linter.all false
namespace Go.Proofs.YtgaihilgffficaaGreatDoor.Ev
open Go
variable [Gb]
theorem St.nK {c : C} {h h' : H} {F : Nat → Prop} {S : aX} {p : Nat} {bp : Option Nat} {b' : PB} (s : St c h F S) (hle : h.n ≤ h'.n)
    (hsame : ∀ id, id < h.n → (∀ b, aI S p = some (some id, b) → b = .dead) → h'.get id = h.get id)
    (hnew : ∀ id, bp = some id → b' ≠ .dead → (id = h.n ∧ h.n < h'.n ∨ ∃ b, aI S p = some (some id, b) ∧ b ≠ .dead) ∧ ∃ ab, h'.get id = some ab ∧ ∀ F' : Nat → Prop, (∀ i, F i → F' i ∧ h'.get i = h.get i) → RB h' F' b' ab) : St c h' F ((p, bp, b') :: S) ∧ Ext h F S h' F ((p, bp, b') :: S) := by
 have jT : ∀ id, F id → F id ∧ h'.get id = h.get id := fun id q => ⟨q, hsame id (s.fr id q).1 fun b e => by
  by_cases hb : b = .dead
  ·exact hb
  ·exact absurd q (s.own p id b e hb).2.2.2.1⟩
 refine ⟨⟨s.cx.mono hle, s.gl.mono jT, fun id q => ⟨Nat.lt_of_lt_of_le (s.fr id q).1 hle, (s.fr id q).2⟩, fun q id b e hb => ?_, fun q1 q2 id b d e1 e2 hb hd => ?_⟩, hle, fun _ q => q, fun id bV hl => hsame id bV fun b e => ?_, fun id q => Or.inl q, fun id ⟨q, b, e, hb⟩ => ?_⟩
 ·rw [aw] at e
  by_cases hq : p = q
  ·rw [if_pos hq] at e
   cases e
   obtain ⟨h1, ab, h2, h3⟩ := hnew id rfl hb
   have h4 := h3 F jT
   rcases h1 with ⟨rfl, hlt⟩ | ⟨b0, h5, h6⟩
   ·exact ⟨hlt, s.cx.low, s.cx.cM _ (Nat.le_refl _), fun x => absurd (s.fr _ x).1 (Nat.lt_irrefl _), ab, h2, h4⟩
   ·obtain ⟨g1, g2, g3, g4, _⟩ := s.own p id b0 h5 h6
    exact ⟨Nat.lt_of_lt_of_le g1 hle, g2, g3, g4, ab, h2, h4⟩
  ·rw [if_neg hq] at e
   obtain ⟨g1, g2, g3, g4, ab, g5, g6⟩ := s.own q id b e hb
   refine ⟨Nat.lt_of_lt_of_le g1 hle, g2, g3, g4, ab, (hsame id g1 fun b0 e0 => ?_).trans g5, g6.mono jT⟩
   by_cases hb0 : b0 = .dead
   ·exact hb0
   ·exact absurd (s.inj p q id b0 b e0 e hb0 hb) hq
 ·rw [aw] at e1 e2
  have aux : ∀ q b d, p ≠ q → (some (bp, b') : Option (Option Nat × PB)) = some (some id, b) → aI S q = some (some id, d) → b ≠ .dead → d ≠ .dead → False := fun q b d hq f1 f2 hb hd => by
   have ho : bp = some id := by cases f1; rfl
   have hbb : b' = b := by cases f1; rfl
   obtain ⟨h1, _⟩ := hnew id ho (by rw [hbb]; exact hb)
   rcases h1 with ⟨bV, hlt⟩ | ⟨b0, h5, h6⟩
   ·have := (s.own q _ d f2 hd).1; omega
   ·exact hq (s.inj p q id b0 d h5 f2 h6 hd)
  by_cases x1 : p = q1
  ·by_cases x2 : p = q2
   ·exact x1.symm.trans x2
   ·rw [if_pos x1] at e1; rw [if_neg x2] at e2
    exact (aux q2 b d x2 e1 e2 hb hd).elim
  ·rw [if_neg x1] at e1
   by_cases x2 : p = q2
   ·rw [if_pos x2] at e2
    exact (aux q1 d b x1 e2 e1 hd hb).elim
   ·rw [if_neg x2] at e2
    exact s.inj q1 q2 id b d e1 e2 hb hd
 ·by_cases hb : b = .dead
  ·exact hb
  ·exact absurd ⟨p, b, e, hb⟩ hl
 ·rw [aw] at e
  by_cases hq : p = q
  ·rw [if_pos hq] at e
   cases e
   obtain ⟨h1, _⟩ := hnew id rfl hb
   rcases h1 with ⟨rfl, hlt⟩ | ⟨b0, h5, h6⟩
   ·exact Or.inl (Nat.le_refl _)
   ·exact Or.inr ⟨p, b0, h5, h6⟩
  ·rw [if_neg hq] at e
   exact Or.inr ⟨q, b, e, hb⟩
theorem St.new {c : C} {h : H} {F : Nat → Prop} {S : aX} (s : St c h F S) (p : Nat) {b : PB} {ab : AB} (hb : RB h F b ab) : St c (h.new ab) F ((p, some h.n, b) :: S) ∧ Ext h F S (h.new ab) F ((p, some h.n, b) :: S) := by
 refine s.nK (by rw [vx]; omega) (fun id bV _ => ir (Nat.lt_succ_self _) _ bV) fun id e _ => ?_
 cases e
 exact ⟨Or.inl ⟨rfl, by rw [vx]; omega⟩, ab, lg (Nat.lt_succ_self _) _, fun F' hm => hb.mono hm⟩
theorem St.put {c : C} {h : H} {F : Nat → Prop} {S : aX} (s : St c h F S) {p id : Nat} {b0 b : PB} {ab : AB} (e : aI S p = some (some id, b0)) (h0 : b0 ≠ .dead) (hb : RB h F b ab) : St c (h.put id ab) F ((p, some id, b) :: S) ∧ Ext h F S (h.put id ab) F ((p, some id, b) :: S) := by
 refine s.nK (Nat.le_refl _) (fun j hj hd => jX (Nat.lt_succ_self _) _ fun q => ?_) fun j ej _ => ?_
 ·subst q
  exact h0 (hd b0 e)
 ·cases ej
  exact ⟨Or.inr ⟨b0, e, h0⟩, ab, zk (Nat.lt_succ_self _) _, fun F' hm => hb.mono hm⟩
section
variable {P : Program} {X : dg} {M : Mf} {d : Nat} {G : aZ} {S : aX} {K : PV → aX → Prop} {op : SO} {K0 : PV → Prop} {K1 : (Nat → PV) → PB → Prop}
theorem aj {x : XV} {v : PV} (hk : K1 (fun id => .ptr d id 0) (.cells v.cells)) (hx : ca G x = some v := by exact rfl) : Jb P X M d (.box x) G K1 := ⟨fun c h F env r K' k => by
 obtain ⟨a, e1, q⟩ := r.ev hx
 exact Oo e1 (Nat.lt_succ_self _) (k _ _ _ _ (RB.cells _ _ q.cells) (fun h' => .ptr _ _ _) (fun q => by cases q) hk) q.A3⟩
theorem xr : ∀ {a b : List AV} {x y : List PV}, eC a = some x → eC b = some y → eC (a ++ b) = some (x ++ y)
 | [], b, x, y, h1, h2 => by simp only [eC] at h1; cases h1; simpa using h2
 | v :: a, b, x, y, h1, h2 => by
  simp only [eC] at h1
  split at h1
  ·rename_i p ps e1 e2
   cases h1
   have := xr e2 h2
   simp only [List.cons_append, eC, e1, this]
  ·cases h1
theorem rA {z : List AV} {zs : List PV} (hz : eC z = some zs) : ∀ n, eC (List.replicate n z).flatten = some (List.replicate n zs).flatten
 | 0 => rfl
 | n + 1 => by simpa [List.replicate_succ] using xr hz (rA hz n)
theorem rB : ∀ {a : List AV} {x : List PV}, eC a = some x → x.length = a.length
 | [], x, h1 => by simp only [eC] at h1; cases h1; rfl
 | v :: a, x, h1 => by
  simp only [eC] at h1
  split at h1
  ·rename_i p ps e1 e2
   cases h1
   simp [rB e2]
  ·cases h1
theorem BI {off : Nat} {news l : List PV} (h : off + news.length ≤ l.length) : (uB off news l).length = l.length := by
 unfold uB; simp; omega
theorem vy : ∀ {ps : List (Nat × Nat × XV)} {l l' : List PV}, mD G ps l = some l' → l'.length = l.length
 | [], l, l', e => by cases e; rfl
 | p :: ps, l, l', e => by
  simp only [mD] at e
  split at e
  ·rename_i v hv
   cases hb : (Nat.beq v.cells.length p.2.1 && Nat.ble (p.1 + v.cells.length) l.length) with
   | false => rw [hb] at e; cases e
   | true =>
    rw [hb] at e
    rw [vy e, BI (Nat.le_of_ble_eq_true ((Bool.and_eq_true _ _).mp hb).2)]
  ·cases e
def rN (e : Nat) (l : List PV) : Nat → List PV := fun i => (l.drop (i * e)).take e
theorem Oq {h : H} {F : Nat → Prop} {l : List PV} {azs : List AV} {e n : Nat} (q : Rs h F l azs) (hl : l.length = n * e) : RB h F (.arr e n (rN e l)) (.cells azs) := by
 have hi : ∀ i, i < n → i * e + e ≤ n * e := fun i hi => by
  have := Nat.mul_le_mul_right e hi
  rwa [Nat.succ_mul] at this
 refine .arr _ _ _ _ (by rw [q.len, hl]; exact Nat.le_refl _) (fun i h1 => ?_) fun i h1 => ?_
 ·have := hi i h1
  simp [rN]; omega
 ·exact (q.drop _).take _
theorem bw {n : Nat} {z : List AV} {ps : List (Nat × Nat × XV)} {zs l : List PV} (hk : K1 (fun id => .own d (some id) n z.length) (.arr z.length n (rN z.length l))) (hz : eC z = some zs := by exact rfl) (hp : mD G ps (List.replicate n zs).flatten = some l := by exact rfl) (hn : n ≤ 9223372036854775807 := by decide) : Jb P X M d (.cr n z ps) G K1 := ⟨fun c h F env r K' k => by
 obtain ⟨azs, e1, q⟩ := tz r ps _ l _ hp (jI h F _ _ (rA hz n))
 have hl : l.length = n * z.length := by
  rw [vy hp, List.length_flatten]
  simp [rB hz]
 exact xt e1 (Nat.lt_succ_self _) (k _ _ _ _ (Oq q hl) (fun h' => .own _ _ _ _ _ hn) (fun q => by cases q) hk)⟩
theorem Rs.part {h : H} {F : Nat → Prop} {ps : List PV} {azs : List AV} (q : Rs h F ps azs) {o n : Nat} (hl : o + n ≤ ps.length) : Rs h F ((ps.drop o).take n) ((azs.drop o).take n) ∧ o + n ≤ azs.length := ⟨(q.drop o).take n, by rw [q.len]; exact hl⟩
theorem af {x : XV} {p id off : Nat} {vs : List PV} {v : PV} (hk : K0 v) (hx : ca G x = some (.ptr p id off) := by exact rfl) (hS : aI S p = some (some id, .cells vs) := by exact rfl) (hv : qt vs off = some v := by exact rfl) : wM P X M (.aB x) G S K0 :=
 ld (p := v) (fun h F env r s => by
  obtain ⟨a, e1, q⟩ := r.ev hx
  cases q
  obtain ⟨ab, h2, h3⟩ := s p id _ hS (fun q => by cases q)
  cases h3 with
  | cells _ azs q =>
   rw [lf] at hv
   obtain ⟨u, e2, q2⟩ := q.get hv
   exact ⟨_, _, _, _, rfl, e1, h2, Or.inr ⟨p, _, hS, fun q => by cases q⟩, fun c h1 K' k => vz e1 h1 h2 e2 (k _ q2)⟩) hk
theorem bG {n : Nat} {x : XV} {p id off : Nat} {vs us : List PV} (hk : K0 (.agg us)) (hx : ca G x = some (.ptr p id off) := by exact rfl) (hS : aI S p = some (some id, .cells vs) := by exact rfl) (hu : off + n ≤ vs.length ∧ (vs.drop off).take n = us := by exact ⟨dc, rfl⟩) : wM P X M (.ax n x) G S K0 :=
 ld (p := .agg us) (fun h F env r s => by
  obtain ⟨a, e1, q⟩ := r.ev hx
  cases q
  obtain ⟨ab, h2, h3⟩ := s p id _ hS (fun q => by cases q)
  cases h3 with
  | cells _ azs q =>
   obtain ⟨q1, q2⟩ := q.part hu.1
   rw [hu.2] at q1
   exact ⟨_, _, _, _, rfl, e1, h2, Or.inr ⟨p, _, hS, fun q => by cases q⟩, fun c h1 K' k => qu e1 h1 h2 q2 rfl (k _ (.agg _ _ q1))⟩) hk
theorem ag {n : Nat} {x : XV} {p id : Nat} {vs : List PV} (hk : K0 (.agg vs)) (hx : ca G x = some (.ptr p id 0) := by exact rfl) (hS : aI S p = some (some id, .cells vs) := by exact rfl) (hu : vs.length = n := by exact rfl) : wM P X M (.ax n x) G S K0 :=
 bG hk hx hS ⟨om, by rw [List.drop_zero, ← hu, List.take_length]⟩
theorem aa {x : XV} {off : Nat} {row : List PV} {v : PV} (hk : K0 v) (hx : ca G x = some (.fp row off) := by exact rfl) (hv : qt row off = some v := by exact rfl) : wM P X M (.aB x) G S K0 :=
 ld (p := v) (fun h F env r s => by
  obtain ⟨a, e1, q⟩ := r.ev hx
  cases q with
  | fp _ _ id base vs h1 h2 h3 h4 =>
   rw [lf] at hv
   obtain ⟨b, e2, q2⟩ := h4.get hv
   rw [List.getElem?_take] at e2
   split at e2
   ·rw [List.getElem?_drop] at e2
    exact ⟨_, _, _, _, rfl, e1, h2, Or.inl h1, fun c hc K' k => vz e1 hc h2 e2 (k _ q2)⟩
   ·cases e2) hk
theorem zV {n : Nat} {x : XV} {off : Nat} {row us : List PV} (hk : K0 (.agg us)) (hx : ca G x = some (.fp row off) := by exact rfl) (hu : off + n ≤ row.length ∧ (row.drop off).take n = us := by exact ⟨dc, rfl⟩) : wM P X M (.ax n x) G S K0 :=
 ld (p := .agg us) (fun h F env r s => by
  obtain ⟨a, e1, q⟩ := r.ev hx
  cases q with
  | fp _ _ id base vs h1 h2 h3 h4 =>
   obtain ⟨q1, q2⟩ := h4.part hu.1
   rw [hu.2] at q1
   rw [List.length_take, List.length_drop] at q2
   have e2 : (vs.drop (base + off)).take n = (((vs.drop base).take row.length).drop off).take n := by
    rw [List.drop_take, List.take_take, List.drop_drop]
    congr 1
    omega
   exact ⟨_, _, _, _, rfl, e1, h2, Or.inl h1, fun c hc K' k => qu e1 hc h2 om e2 (k _ (.agg _ _ q1))⟩) hk
theorem ae {n : Nat} {x : XV} {row : List PV} (hk : K0 (.agg row)) (hx : ca G x = some (.fp row 0) := by exact rfl) (hu : row.length = n := by first | exact rfl | (simp; done)) : wM P X M (.ax n x) G S K0 :=
 zV hk hx ⟨om, by rw [List.drop_zero, ← hu, List.take_length]⟩
theorem aT {x : XV} {p id i off e n : Nat} {rows : Nat → List PV} {v : PV} (hk : K0 v) (hx : ca G x = some (.ib p id i off e) := by exact rfl) (hS : aI S p = some (some id, .arr e n rows) := by exact rfl) (hv : qt (rows i) off = some v := by exact rfl) (hi : i < n := by omega) : wM P X M (.aB x) G S K0 :=
 ld (p := v) (fun h F env r s => by
  obtain ⟨a, e1, q⟩ := r.ev hx
  cases q
  obtain ⟨ab, h2, h3⟩ := s p id _ hS (fun q => by cases q)
  cases h3 with
  | arr _ _ _ azs q1 q2 q3 =>
   rw [lf] at hv
   obtain ⟨u, e2, q4⟩ := (q3 i hi).get hv
   rw [List.getElem?_take] at e2
   split at e2
   ·rw [List.getElem?_drop] at e2
    exact ⟨_, _, _, _, rfl, e1, h2, Or.inr ⟨p, _, hS, fun q => by cases q⟩, fun c h1 K' k => vz e1 h1 h2 e2 (k _ q4)⟩
   ·cases e2) hk
theorem Fe {e : Nat} {x : XV} {p id i n : Nat} {rows : Nat → List PV} (hk : K0 (.agg (rows i))) (hx : ca G x = some (.ib p id i 0 e) := by exact rfl) (hS : aI S p = some (some id, .arr e n rows) := by exact rfl) (hi : i < n := by omega) : wM P X M (.ax e x) G S K0 :=
 ld (p := .agg (rows i)) (fun h F env r s => by
  obtain ⟨a, e1, q⟩ := r.ev hx
  cases q
  obtain ⟨ab, h2, h3⟩ := s p id _ hS (fun q => by cases q)
  cases h3 with
  | arr _ _ _ azs q1 q2 q3 =>
   have := Nat.mul_le_mul_right e hi
   rw [Nat.succ_mul] at this
   exact ⟨_, _, _, _, rfl, e1, h2, Or.inr ⟨p, _, hS, fun q => by cases q⟩, fun c h1 K' k => qu e1 h1 h2 om rfl (k _ (.agg _ _ (q3 i hi)))⟩) hk
theorem ay {n : Nat} {a x : XV} {p id off : Nat} {vs : List PV} {v : PV} (hk : K (.bO []) ((p, some id, .cells (uB off v.cells vs)) :: S)) (ha : ca G a = some (.ptr p id off) := by exact rfl) (hx : ca G x = some v := by exact rfl) (hS : aI S p = some (some id, .cells vs) := by exact rfl) (hn : v.cells.length = n := by exact rfl) (ho : PV.cw v.cells = true := by exact rfl) (hl : off + n ≤ vs.length := by first | exact Nat.le_of_ble_eq_true rfl | decide | (simp; done)) : PO P X M d (.store n a x) G S K := ⟨fun c h F env s r => by
 obtain ⟨a', e1, q1⟩ := r.ev ha
 obtain ⟨v', e2, q2⟩ := r.ev hx
 cases q1
 obtain ⟨h0, h1, _, ab, h2, h3⟩ := s.at_ hS (fun q => by cases q)
 cases h3 with
 | cells _ azs q =>
  have hc := q2.cells
  obtain ⟨s1, x1⟩ := s.put hS (fun q => by cases q) (RB.cells _ _ (q.dL hc off))
  exact BJ e1 e2 h0 h1 h2 (by rw [hc.len]; exact hn) (hc.cw ho) (by rw [q.len]; exact hl) ⟨_, _, F, x1, s1, .bO _ _ .nil, hk⟩⟩
theorem c9 {n : Nat} {a x : XV} {p id i off e m : Nat} {rows : Nat → List PV} {v : PV} (hk : K (.bO []) ((p, some id, .arr e m (fun j => if j = i then uB off v.cells (rows i) else rows j)) :: S)) (ha : ca G a = some (.ib p id i off e) := by exact rfl) (hx : ca G x = some v := by exact rfl) (hS : aI S p = some (some id, .arr e m rows) := by exact rfl) (hn : v.cells.length = n := by exact rfl) (ho : PV.cw v.cells = true := by exact rfl) (hl : off + n ≤ e := by first | exact Nat.le_of_ble_eq_true rfl | decide | (simp; done)) (hi : i < m := by omega) : PO P X M d (.store n a x) G S K := ⟨fun c h F env s r => by
 obtain ⟨a', e1, q1⟩ := r.ev ha
 obtain ⟨v', e2, q2⟩ := r.ev hx
 cases q1
 obtain ⟨h0, h1, _, ab, h2, h3⟩ := s.at_ hS (fun q => by cases q)
 cases h3 with
 | arr _ _ _ azs r1 r2 r3 =>
  have hc := q2.cells
  have hcl := hc.len
  have him := Nat.mul_le_mul_right e hi
  rw [Nat.succ_mul] at him
  have hlen : (dL (i * e + off) v'.cells azs).length = azs.length := by
   unfold Ev.dL; simp; omega
  have hrow : ∀ j, j < m → ((dL (i * e + off) v'.cells azs).drop (j * e)).take e = if j = i then dL off v'.cells ((azs.drop (i * e)).take e) else (azs.drop (j * e)).take e := fun j hj => by
   have hjm := Nat.mul_le_mul_right e hj
   rw [Nat.succ_mul] at hjm
   by_cases hji : j = i
   ·subst hji
    rw [if_pos rfl]
    apply List.ext_getElem?
    intro t
    unfold Ev.dL
    simp only [List.getElem?_take, List.getElem?_drop, List.getElem?_append, List.length_append, List.length_take, List.length_drop]
    by_cases t1 : t < off
    ·have a1 : j * e + t < min (j * e + off) azs.length := by omega
     have a2 : t < min off (min e (azs.length - j * e)) := by omega
     have a3 : j * e + t < min (j * e + off) azs.length + v'.cells.length := by omega
     have a4 : t < min off (min e (azs.length - j * e)) + v'.cells.length := by omega
     have a5 : t < e := by omega
     have a6 : j * e + t < j * e + off := by omega
     simp [a1, a2, a3, a4, a5, a6, t1]
    ·by_cases t2 : t < off + v'.cells.length
     ·have a1 : ¬ j * e + t < min (j * e + off) azs.length := by omega
      have a2 : ¬ t < min off (min e (azs.length - j * e)) := by omega
      have a3 : j * e + t < min (j * e + off) azs.length + v'.cells.length := by omega
      have a4 : t < min off (min e (azs.length - j * e)) + v'.cells.length := by omega
      have a5 : t < e := by omega
      have a6 : j * e + t - min (j * e + off) azs.length = t - min off (min e (azs.length - j * e)) := by omega
      simp only [a1, a2, a3, a4, a5, a6, if_true, if_false]
     ·have a3 : ¬ j * e + t < min (j * e + off) azs.length + v'.cells.length := by omega
      have a4 : ¬ t < min off (min e (azs.length - j * e)) + v'.cells.length := by omega
      simp only [a3, a4, if_false]
      by_cases t3 : t < e
      ·have a6 : j * e + off + v'.cells.length + (j * e + t - (min (j * e + off) azs.length + v'.cells.length)) = j * e + t := by omega
       have a7 : j * e + (off + v'.cells.length + (t - (min off (min e (azs.length - j * e)) + v'.cells.length))) = j * e + t := by omega
       have a8 : off + v'.cells.length + (t - (min off (min e (azs.length - j * e)) + v'.cells.length)) < e := by omega
       simp only [a6, a7, a8, t3, if_true]
      ·have a8 : ¬ off + v'.cells.length + (t - (min off (min e (azs.length - j * e)) + v'.cells.length)) < e := by omega
       simp only [a8, t3, if_false]
   ·rw [if_neg hji]
    apply List.ext_getElem?
    intro t
    unfold Ev.dL
    simp only [List.getElem?_take, List.getElem?_drop, List.getElem?_append, List.length_append, List.length_take]
    by_cases t0 : t < e
    ·rw [if_pos t0, if_pos t0]
     rcases Nat.lt_or_gt_of_ne hji with y | y
     ·have := Nat.mul_le_mul_right e y
      rw [Nat.succ_mul] at this
      have a1 : j * e + t < min (i * e + off) azs.length := by omega
      have a3 : j * e + t < min (i * e + off) azs.length + v'.cells.length := by omega
      have a6 : j * e + t < i * e + off := by omega
      simp [a1, a3, a6]
     ·have := Nat.mul_le_mul_right e y
      rw [Nat.succ_mul] at this
      have a3 : ¬ j * e + t < min (i * e + off) azs.length + v'.cells.length := by omega
      have a6 : i * e + off + v'.cells.length + (j * e + t - (min (i * e + off) azs.length + v'.cells.length)) = j * e + t := by omega
      simp only [a3, a6, if_false]
    ·rw [if_neg t0, if_neg t0]
  have hrb : RB h F (.arr e m (fun j => if j = i then uB off v.cells (rows i) else rows j)) (.cells (dL (i * e + off) v'.cells azs)) := by
   refine .arr _ _ _ _ (by rw [hlen]; exact r1) (fun j hj => ?_) fun j hj => ?_
   ·by_cases hji : j = i
    ·rw [if_pos hji, BI (by rw [r2 i hi]; omega)]; exact r2 i hi
    ·rw [if_neg hji]; exact r2 j hj
   ·rw [hrow j hj]
    by_cases hji : j = i
    ·rw [if_pos hji, if_pos hji]; exact (r3 i hi).dL hc off
    ·rw [if_neg hji, if_neg hji]; exact r3 j hj
  obtain ⟨s1, x1⟩ := s.put hS (fun q => by cases q) hrb
  exact BJ e1 e2 h0 h1 h2 (by rw [hc.len]; exact hn) (hc.cw ho) om ⟨_, _, F, x1, s1, .bO _ _ .nil, hk⟩⟩
/-! places of slices -/
theorem aE {e : Nat} {x i : XV} {k : IntKind} {z : Int} {n : Nat} {rows : Nat → List PV} (hk : K0 (.fp (rows z.toNat) 0)) (hx : ca G x = some (.tr e n rows) := by exact rfl) (hi : ca G i = some (.int k z) := by exact rfl) (h0 : 0 ≤ z := by omega) (h1 : z < (n : Int) := by omega) : kG P X M (.aR e x i) G K0 :=
 eJ (p := .fp (rows z.toNat) 0) (fun c h F env r K k => by
  obtain ⟨a, e1, q⟩ := r.ev hx
  obtain ⟨b, e2, q2⟩ := r.ev hi
  cases q2
  have hz : z = ((z.toNat : Nat) : Int) := by omega
  have hlt : z.toNat < n := by omega
  cases q with
  | wD _ _ _ _ => omega
  | tr _ _ _ id off cap vs g0 g1 g2 g3 g4 g5 =>
   refine BK e1 e2 hz hlt (k _ ?_)
   have g6 := g5 _ hlt
   have g7 := g4 _ hlt
   have := Nat.mul_le_mul_right e hlt
   rw [Nat.succ_mul] at this
   have q := R.fp (F := F) (rows z.toNat) 0 id (off + z.toNat * e) vs g1 g2 om (by rw [g7]; exact g6)
   rwa [Nat.add_zero] at q) hk
theorem aC {e : Nat} {x i : XV} {k : IntKind} {j : Nat} {n : Nat} {rows : Nat → List PV} (hk : K0 (.fp (rows j) 0)) (hx : ca G x = some (.tr e n rows) := by exact rfl) (hi : ca G i = some (.int k (j : Int)) := by exact rfl) (h1 : j < n := by omega) : kG P X M (.aR e x i) G K0 := aE hk hx hi om om
theorem ar {x : XV} {p id off : Nat} {vs : List PV} {v : Bool} (ht : v = true → K0 (.bool true)) (hf : v = false → K0 (.bool false)) (hx : ca G x = some (.ptr p id off) := by exact rfl) (hS : aI S p = some (some id, .cells vs) := by exact rfl) (hv : qt vs off = some (.bool v) := by exact rfl) : wM P X M (.aB x) G S K0 :=
 af (v := .bool v) (by cases v with | true => exact ht rfl | false => exact hf rfl) hx hS hv
theorem ak {x : XV} {off : Nat} {row : List PV} {v : Bool} (ht : v = true → K0 (.bool true)) (hf : v = false → K0 (.bool false)) (hx : ca G x = some (.fp row off) := by exact rfl) (hv : qt row off = some (.bool v) := by exact rfl) : wM P X M (.aB x) G S K0 :=
 aa (v := .bool v) (by cases v with | true => exact ht rfl | false => exact hf rfl) hx hv
theorem qL {e : Nat} {x i : XV} {k : IntKind} {z : Int} {p n : Nat} {bp : Option Nat} (hk : ∀ id, bp = some id → K0 (.ib p id z.toNat 0 e)) (hx : ca G x = some (.own p bp n e) := by exact rfl) (hi : ca G i = some (.int k z) := by exact rfl) (h0 : 0 ≤ z := by omega) (h1 : z < (n : Int) := by omega) : kG P X M (.aR e x i) G K0 := by
 have hz : z = ((z.toNat : Nat) : Int) := by omega
 have hlt : z.toNat < n := by omega
 cases bp with
 | none => exact ⟨fun c h F env r K' k => by
     obtain ⟨a, e1, q⟩ := r.ev hx
     cases q
     omega⟩
 | some id => exact eJ (p := .ib p id z.toNat 0 e) (fun c h F env r K k => by
     obtain ⟨a, e1, q⟩ := r.ev hx
     obtain ⟨b, e2, q2⟩ := r.ev hi
     cases q2
     cases q with
     | own _ _ _ _ cap hb =>
      refine BK e1 e2 hz hlt (k _ ?_)
      rw [Nat.zero_add]
      exact .ib _ _ _ _ _) (hk id rfl)
theorem ef {e : Nat} {x i : XV} {k : IntKind} {j p n : Nat} {bp : Option Nat} (hk : ∀ id, bp = some id → K0 (.ib p id j 0 e)) (hx : ca G x = some (.own p bp n e) := by exact rfl) (hi : ca G i = some (.int k (j : Int)) := by exact rfl) (h1 : j < n := by omega) : kG P X M (.aR e x i) G K0 := qL (z := (j : Int)) hk hx hi om om
theorem G2 {n : Nat} (l : List (List Nat)) {x i : XV} {k : IntKind} {j : Nat} (hk : K0 (.str (l.getD j []))) (hx : ca G x = some (.agg (l.map PV.str)) := by exact rfl) (hi : ca G i = some (.int k (j : Int)) := by exact rfl) (hn : n ≤ l.length := by decide) (h1 : j < n := by omega) : kG P X M (.MZ n x i) G K0 :=
 eJ (p := .str (l.getD j [])) (fun c h F env r K k => by
  obtain ⟨a, e1, q1⟩ := r.ev hx
  obtain ⟨b, e2, q2⟩ := r.ev hi
  cases q2
  cases q1 with
  | agg _ azs q =>
   have hj : j < l.length := by omega
   have e3 : (l.map PV.str)[j]? = some (.str (l.getD j [])) := by simp [hj]
   obtain ⟨u, e4, q4⟩ := q.get e3
   refine bq (fun sl hs call k' => ?_) (k _ q4)
   simp only [SO.den, Be, hs.ev e1, hs.ev e2]
   show (match AV.agg azs, some j with | .agg vs, some i => _ | _, _ => none) = _
   have b1 : Nat.blt j n = true := by simpa [Nat.blt_eq] using h1
   simp only [b1, cond, gP, e4]) hk
theorem EZ {n : Nat} (l : List (List Nat)) {x i : XV} {k : IntKind} {z : Int} (hk : K0 (.fp [.str (l.getD z.toNat [])] 0)) (hx : ca G x = some (.fp (l.map PV.str) 0) := by exact rfl) (hi : ca G i = some (.int k z) := by exact rfl) (hn : n ≤ l.length := by decide) (h0 : 0 ≤ z := by omega) (h1 : z < (n : Int) := by omega) : kG P X M (.CC n 1 x i) G K0 :=
 eJ (p := .fp [.str (l.getD z.toNat [])] 0) (fun c h F env r K k => by
  obtain ⟨a, e1, q1⟩ := r.ev hx
  obtain ⟨b, e2, q2⟩ := r.ev hi
  cases q2
  obtain ⟨j, rfl⟩ := Int.eq_ofNat_of_zero_le h0
  have hj : j < l.length := by omega
  cases q1 with
  | fp _ _ id base vs h1 h2 h3 h4 =>
   have e3 : (l.map PV.str)[j]? = some (.str (l.getD j [])) := by simp [hj]
   obtain ⟨u, e4, q4⟩ := h4.get e3
   rw [List.length_map] at h3 e4
   rw [List.getElem?_take, if_pos hj, List.getElem?_drop] at e4
   have hb : Nat.blt j n = true := by simp [Nat.blt_eq]; omega
   refine bq (fun sl hs call k' => ?_) (k (.ptr id (base + 0 + j * 1)) ?_)
   ·simp only [SO.den, p8, hs.ev e1, hs.ev e2]
    show (match AV.ptr id (base + 0), some j with | .ptr id off, some i => _ | _, _ => none) = _
    simp only [hb, cond, bn]; rfl
   ·have := R.fp (F := F) [.str (l.getD j [])] 0 id (base + j) vs h1 h2 (by simp; omega) (by
      have e5 : (vs.drop (base + j)).take 1 = [u] := by
       rw [List.take_one, List.head?_drop, e4]; rfl
      show Rs h F _ ((vs.drop (base + j)).take 1)
      rw [e5]
      exact .cons _ _ _ _ q4 .nil)
    rw [show base + 0 + j * 1 = base + j + 0 by omega]
    exact this) hk
end
end Go.Proofs.YtgaihilgffficaaGreatDoor.Ev
