/- CoverStates, part 15 -/
import Derived.Test.YtgaihilgffficaaGreatDoorSyB
set_option linter.all false
namespace Go.Proofs.YtgaihilgffficaaGreatDoor.Ev
open Go
section
variable {P : Program} {X : dg} {M : Mf} {c : C} {nt : Nat} {env : bu} {h : H} {K : AV → H → Prop} {ops : List SR}
section
variable {Q : bu → H → Prop} {n d p1 p2 p3 : Nat} {m1 b1 m2 b2 m3 b3 : Bool} {f1 f2 f3 : Option XV} {x y : XV} {zs row : List AV} {v u : AV}
end
/-! arrays: their cells -/
theorem xF {esz : Nat} : ∀ (rows : List (List AV)) (vs : List AV), rows.length * esz ≤ vs.length → (∀ i row, rows[i]? = some row → (vs.drop (i * esz)).take esz = row) → vs.take (rows.length * esz) = rows.flatten
 | [], vs, _, _ => by simp
 | r :: rows, vs, hl, hr => by
  have h0 := hr 0 r rfl
  simp only [Nat.zero_mul, List.drop_zero] at h0
  rw [List.length_cons, Nat.succ_mul] at hl
  have ih := xF (esz := esz) rows (vs.drop esz) (by rw [List.length_drop]; omega) fun i row hi => by
   have := hr (i + 1) row (by simpa using hi)
   rw [List.drop_drop, Nat.add_comm esz, ← Nat.succ_mul]; exact this
  rw [List.length_cons, Nat.succ_mul, Nat.add_comm, List.take_add, h0, ih, List.flatten_cons]
theorem zF.full {sv : AV} {esz id : Nat} {rows : List (List AV)} (a : zF h sv esz rows id) (hp : 0 < rows.length) : (∃ cap, sv = .sl id 0 rows.length esz cap) ∧ id < h.n ∧ (∃ vs, h.get id = some (.cells vs) ∧ rows.length * esz ≤ vs.length ∧ vs.take (rows.length * esz) = rows.flatten) ∧ ∀ row ∈ rows, row.length = esz := by
 rcases a.at_ with ⟨rfl, _⟩ | ⟨_, q2, q3, vs, q4, q5, q6⟩
 ·simp at hp
 ·refine ⟨q2, q3, ⟨vs, q4, q5, xF _ _ q5 q6⟩, fun row hm => ?_⟩
  obtain ⟨i, hi, rfl⟩ := List.mem_iff_getElem.1 hm
  have e := q6 i _ (List.getElem?_eq_getElem hi)
  have : (i + 1) * esz ≤ rows.length * esz := Nat.mul_le_mul_right _ hi
  rw [Nat.succ_mul] at this
  rw [← e, List.length_take, List.length_drop]
  omega
theorem zF.mk' {esz id : Nat} {cap : Option Nat} {rows : List (List AV)} {vs : List AV} (hp : 0 < rows.length) (hlt : id < h.n) (hg : h.get id = some (.cells vs)) (hv : vs = rows.flatten) (hl : ∀ row ∈ rows, row.length = esz) : zF h (.sl id 0 rows.length esz cap) esz rows id := by
 subst hv
 exact ⟨Or.inr ⟨hp, ⟨cap, rfl⟩, hlt, _, hg, by rw [jK hl]; exact Nat.le_refl _, fun i row hi => jJ hl i row hi⟩⟩
theorem zF.take {sv : AV} {esz id : Nat} {rows : List (List AV)} (a : zF h sv esz rows id) {m : Nat} (hm : 0 < m) (hle : m ≤ rows.length) {cap : Option Nat} : zF h (.sl id 0 m esz cap) esz (rows.take m) id := by
 rcases a.at_ with ⟨rfl, _⟩ | ⟨_, q2, q3, vs, q4, q5, q6⟩
 ·simp at hle; omega
 ·have hl : (rows.take m).length = m := by rw [List.length_take]; omega
  refine ⟨Or.inr ⟨om, ⟨cap, by rw [hl]⟩, q3, vs, q4, ?_, fun i row hi => ?_⟩⟩
  ·rw [hl]
   exact Nat.le_trans (Nat.mul_le_mul_right _ hle) q5
  ·rw [List.getElem?_take] at hi
   split at hi
   ·exact q6 i row hi
   ·cases hi
end
/-! what is seen in a region that draws -/
/-! maps azs functions -/
def gz {κ : Type} [DecidableEq κ] (a : κ) : List (κ × AV × Nat) → Option (Nat × AV)
 | [] => none
 | p :: l => if a = p.1 then some (0, p.2.1) else (gz a l).map fun q => (q.1 + 1, q.2)
def oT {κ : Type} (ky : κ → AV) (l : List (κ × AV × Nat)) : List (AV × AV × Nat) := l.map fun p => (ky p.1, p.2.1, p.2.2)
structure Mp {κ : Type} [DecidableEq κ] (ky : κ → AV) (h : H) (id : Nat) (f : κ → Option AV) : Prop where
 ex : ∃ (l : List (κ × AV × Nat)) (clock : Nat), h.get id = some (.map (oT ky l) clock) ∧ ∀ a, f a = (gz a l).map Prod.snd
theorem Mp.jT {κ : Type} [DecidableEq κ] {ky : κ → AV} {h h' : H} {id : Nat} {f : κ → Option AV} (m : Mp ky h id f) (e : h'.get id = h.get id) : Mp ky h' id f := by
 obtain ⟨l, ck, h1, h2⟩ := m.ex
 exact ⟨l, ck, e.trans h1, h2⟩
theorem Mp.nil {κ : Type} [DecidableEq κ] {ky : κ → AV} {h : H} {id : Nat} (hg : h.get id = some (.map [] 0)) : Mp ky h id fun _ => none := ⟨[], 0, hg, fun _ => rfl⟩
section
variable {κ : Type} [DecidableEq κ] {ky : κ → AV} {eq : iH}
theorem rC (hq : ∀ a b, eq (ky a) (ky b) = some (decide (a = b))) (a : κ) : ∀ (l : List (κ × AV × Nat)) (j : Nat), gD eq (ky a) (oT ky l) j = some ((gz a l).map fun q => (j + q.1, q.2))
 | [], j => rfl
 | p :: l, j => by
  simp only [oT, List.map_cons, gD, hq, gz]
  by_cases e : a = p.1
  ·rw [if_pos e, decide_eq_true e]; simp
  ·rw [if_neg e, decide_eq_false e]
   have := rC hq a l (j + 1)
   simp only [oT] at this
   simp only
   rw [show Nat.succ j = j + 1 from rfl, this]
   cases gz a l with
   | none => rfl
   | some q => simp; omega
def qy (a : κ) (u : AV) : List (κ × AV × Nat) → List (κ × AV × Nat)
 | [] => []
 | p :: l => if a = p.1 then (p.1, u, p.2.2) :: l else p :: qy a u l
theorem EE (a : κ) (u : AV) (b : κ) : ∀ (l : List (κ × AV × Nat)), gz a l ≠ none → (gz b (qy a u l)).map Prod.snd = if b = a then some u else (gz b l).map Prod.snd
 | [], hne => absurd rfl hne
 | p :: l, hne => by
  simp only [gz] at hne
  by_cases e : a = p.1
  ·simp only [qy, if_pos e, gz]
   by_cases e2 : b = p.1
   ·rw [if_pos e2, if_pos (e2.trans e.symm)]; rfl
   ·rw [if_neg e2, if_neg (fun q => e2 (q.trans e)), if_neg e2]
  ·rw [if_neg e] at hne
   have ih := EE a u b l (fun q => hne (by rw [q]; rfl))
   simp only [qy, if_neg e, gz]
   by_cases e2 : b = p.1
   ·rw [if_pos e2, if_pos e2, if_neg (fun q => e (q.symm.trans e2))]
   ·rw [if_neg e2, if_neg e2, Option.map_map, Option.map_map]
    exact ih
theorem ED (a : κ) (u : AV) : ∀ (l : List (κ × AV × Nat)) (i : Nat) (v : AV), gz a l = some (i, v) → ∃ hi : i < (oT ky l).length, (oT ky l).set i ((oT ky l)[i].1, u, (oT ky l)[i].2.2) = oT ky (qy a u l)
 | [], i, v, h => by cases h
 | p :: l, i, v, h => by
  simp only [gz] at h
  by_cases e : a = p.1
  ·rw [if_pos e] at h; cases h
   refine ⟨by simp [oT], ?_⟩
   simp [oT, qy, if_pos e]
  ·rw [if_neg e] at h
   cases hf : gz a l with
   | none => rw [hf] at h; cases h
   | some q =>
    rw [hf] at h
    simp only [Option.map_some, Option.some.injEq, Prod.mk.injEq] at h
    obtain ⟨rfl, rfl⟩ := h
    obtain ⟨hi, e2⟩ := ED a u l q.1 q.2 hf
    refine ⟨by simpa [oT] using hi, ?_⟩
    simp only [oT, qy, if_neg e, List.map_cons, List.set_cons_succ, List.getElem_cons_succ] at e2 ⊢
    rw [e2]
theorem EC (a b : κ) (u : AV) (ck : Nat) : ∀ (l : List (κ × AV × Nat)), gz a l = none → (gz b (l ++ [(a, u, ck)])).map Prod.snd = if b = a then some u else (gz b l).map Prod.snd
 | [], _ => by
  simp only [List.nil_append, gz]
  by_cases e : b = a
  ·rw [if_pos e, if_pos e]; rfl
  ·rw [if_neg e, if_neg e]; rfl
 | p :: l, h => by
  simp only [gz] at h
  by_cases e : a = p.1
  ·rw [if_pos e] at h; cases h
  ·rw [if_neg e] at h
   have hl : gz a l = none := by
    cases hf : gz a l with
    | none => rfl
    | some q => rw [hf] at h; cases h
   have ih := EC a b u ck l hl
   simp only [List.cons_append, gz]
   by_cases e2 : b = p.1
   ·rw [if_pos e2, if_pos e2, if_neg (fun q => e (q.symm.trans e2))]
   ·rw [if_neg e2, if_neg e2, Option.map_map, Option.map_map]
    exact ih
variable {P : Program} {X : dg} {M : Mf} {c : C} {env : bu} {h : H} {K : AV → H → Prop}
end
inductive Dt where
 | int (n : Int)
 | str (s : List Nat)
 | bool (b : Bool)
 | row (l : List Dt)
 | arr (l : List Dt)
 | jf (n : Nat)
 deriving Inhabited
inductive Sh where
 | int (k : IntKind)
 | str
 | bool
 | row (l : List Sh)
 | arr (e : Sh)
 deriving Inhabited
mutual
def Sh.sz : Sh → Nat
 | .row l => O2 l
 | .int _ => 1
 | .str => 1
 | .bool => 1
 | .arr _ => 1
def O2 : List Sh → Nat
 | [] => 0
 | s :: l => s.sz + O2 l
end
mutual
def Sh.EK (B : Nat) : Sh → Nat
 | .row l => Jy B l
 | .arr e => 1 + B * e.EK B
 | .int _ => 0
 | .str => 0
 | .bool => 0
def Jy (B : Nat) : List Sh → Nat
 | [] => 0
 | s :: l => s.EK B + Jy B l
end
/-! the parts of data -/
def Dt.n : Dt → Int
 | .int n => n
 | _ => 0
def Dt.s : Dt → List Nat
 | .str s => s
 | _ => []
def Dt.b : Dt → Bool
 | .bool b => b
 | _ => false
def Dt.len : Dt → Nat
 | .row l => l.length
 | .arr l => l.length
 | .jf n => n
 | _ => 0
def Dt.l : Dt → List Dt
 | .row l => l
 | .arr l => l
 | _ => []
def Dt.f (d : Dt) (i : Nat) : Dt := d.l.getD i (.int 0)
mutual
def Rp (B : Nat) (fl : Bool) (h : H) : Sh → Dt → List AV → Prop
 | .int k, d, cs => ∃ n, d = .int n ∧ cs = [.int k n]
 | .str, d, cs => ∃ s, d = .str s ∧ cs = [.str s]
 | .bool, d, cs => ∃ b, d = .bool b ∧ cs = [.bool b]
 | .row shs, d, cs => ∃ l, d = .row l ∧ kE B fl h shs l cs
 | .arr e, d, cs => (∃ l sv id rows, d = .arr l ∧ cs = [sv] ∧ ((l.length ≤ B ∨ e.EK B = 0) ∧ l.length ≤ 9223372036854775807) ∧ one sv = true ∧ zF h sv e.sz rows id ∧ rows.length = l.length ∧ ∀ (i : Nat) (x : Dt) (row : List AV), l[i]? = some x → rows[i]? = some row → Rp B fl h e x row) ∨ fl = false ∧ ∃ n oa cp, d = .jf n ∧ cs = [.raw oa n cp] ∧ B < n ∧ e.EK B ≠ 0 ∧ n ≤ 9223372036854775807
def kE (B : Nat) (fl : Bool) (h : H) : List Sh → List Dt → List AV → Prop
 | [], ds, cs => ds = [] ∧ cs = []
 | s :: shs, ds, cs => ∃ d ds' a b, ds = d :: ds' ∧ cs = a ++ b ∧ Rp B fl h s d a ∧ kE B fl h shs ds' b
end
mutual
theorem Rp.len {B : Nat} {fl : Bool} {h : H} : ∀ {sh : Sh} {d : Dt} {cs : List AV}, Rp B fl h sh d cs → cs.length = sh.sz
 | .int k, d, cs, q => by
  simp only [Rp] at q
  obtain ⟨n, _, rfl⟩ := q
  rfl
 | .str, d, cs, q => by
  simp only [Rp] at q
  obtain ⟨n, _, rfl⟩ := q
  rfl
 | .bool, d, cs, q => by
  simp only [Rp] at q
  obtain ⟨n, _, rfl⟩ := q
  rfl
 | .row shs, d, cs, q => by
  simp only [Rp] at q
  obtain ⟨l, _, q⟩ := q
  simp only [Sh.sz]
  exact kE.len q
 | .arr e, d, cs, q => by
  simp only [Rp] at q
  rcases q with ⟨l, sv, id, rows, _, rfl, _⟩ | ⟨_, n, oa, cp, _, rfl, _⟩
  ·rfl
  ·rfl
theorem kE.len {B : Nat} {fl : Bool} {h : H} : ∀ {shs : List Sh} {ds : List Dt} {cs : List AV}, kE B fl h shs ds cs → cs.length = O2 shs
 | [], ds, cs, q => by
  simp only [kE] at q
  obtain ⟨_, rfl⟩ := q
  rfl
 | s :: shs, ds, cs, q => by
  simp only [kE] at q
  obtain ⟨d, ds', a, b, _, rfl, q1, q2⟩ := q
  simp only [O2, List.length_append]
  rw [Rp.len q1, kE.len q2]
end
mutual
theorem Rp.wF {B : Nat} {fl : Bool} {h h' : H} (hg : nI h h') : ∀ {sh : Sh} {d : Dt} {cs : List AV}, Rp B fl h sh d cs → Rp B fl h' sh d cs
 | .int k, d, cs, q => by simpa only [Rp] using q
 | .str, d, cs, q => by simpa only [Rp] using q
 | .bool, d, cs, q => by simpa only [Rp] using q
 | .row shs, d, cs, q => by
  simp only [Rp] at q ⊢
  obtain ⟨l, e, q⟩ := q
  exact ⟨l, e, kE.wF hg q⟩
 | .arr e, d, cs, q => by
  simp only [Rp] at q ⊢
  rcases q with ⟨l, sv, id, rows, e1, e2, e0, e3, e4, e5, e6⟩ | q
  ·exact Or.inl ⟨l, sv, id, rows, e1, e2, e0, e3, e4.wF hg, e5, fun i x row h1 h2 => Rp.wF hg (e6 i x row h1 h2)⟩
  ·exact Or.inr q
theorem kE.wF {B : Nat} {fl : Bool} {h h' : H} (hg : nI h h') : ∀ {shs : List Sh} {ds : List Dt} {cs : List AV}, kE B fl h shs ds cs → kE B fl h' shs ds cs
 | [], ds, cs, q => by simpa only [kE] using q
 | s :: shs, ds, cs, q => by
  simp only [kE] at q ⊢
  obtain ⟨d, ds', a, b, e1, e2, q1, q2⟩ := q
  exact ⟨d, ds', a, b, e1, e2, Rp.wF hg q1, kE.wF hg q2⟩
end
structure Sl (B : Nat) (fl : Bool) (h : H) (e : Sh) (l : List Dt) (sv : AV) : Prop where
 le : l.length ≤ 9223372036854775807
 out : ∃ id rows, one sv = true ∧ zF h sv e.sz rows id ∧ rows.length = l.length ∧ ∀ (i : Nat) (x : Dt) (row : List AV), l[i]? = some x → rows[i]? = some row → Rp B fl h e x row
theorem Sl.wF {B : Nat} {fl : Bool} {h h' : H} {e : Sh} {l : List Dt} {sv : AV} (q : Sl B fl h e l sv) (hg : nI h h') : Sl B fl h' e l sv := by
 obtain ⟨id, rows, e3, e4, e5, e6⟩ := q.out
 exact ⟨q.le, ⟨id, rows, e3, e4.wF hg, e5, fun i x row h1 h2 => Rp.wF hg (e6 i x row h1 h2)⟩⟩
theorem Sl.one {B : Nat} {fl : Bool} {h : H} {e : Sh} {l : List Dt} {sv : AV} (q : Sl B fl h e l sv) : Ev.one sv = true := by
 obtain ⟨id, rows, e3, _⟩ := q.out
 exact e3
theorem vC {B : Nat} {fl : Bool} {h : H} {e : Sh} {d : Dt} {cs : List AV} : Rp B fl h (.arr e) d cs ↔ (∃ l sv, d = .arr l ∧ cs = [sv] ∧ (l.length ≤ B ∨ e.EK B = 0) ∧ Sl B fl h e l sv) ∨ fl = false ∧ ∃ n oa cp, d = .jf n ∧ cs = [.raw oa n cp] ∧ B < n ∧ e.EK B ≠ 0 ∧ n ≤ 9223372036854775807 := by
 simp only [Rp]
 constructor
 ·rintro (⟨l, sv, id, rows, e1, e2, e0, e3, e4, e5, e6⟩ | q)
  ·exact Or.inl ⟨l, sv, e1, e2, e0.1, ⟨e0.2, ⟨id, rows, e3, e4, e5, e6⟩⟩⟩
  ·exact Or.inr q
 ·rintro (⟨l, sv, e1, e2, e0, ⟨e7, ⟨id, rows, e3, e4, e5, e6⟩⟩⟩ | q)
  ·exact Or.inl ⟨l, sv, id, rows, e1, e2, ⟨e0, e7⟩, e3, e4, e5, e6⟩
  ·exact Or.inr q
theorem Sl.row {B : Nat} {fl : Bool} {h : H} {e : Sh} {l : List Dt} {sv : AV} (q : Sl B fl h e l sv) {i : Nat} (hi : i < l.length) : ∃ id rows row, zF h sv e.sz rows id ∧ rows.length = l.length ∧ rows[i]? = some row ∧ Rp B fl h e (l.getD i (.int 0)) row := by
 obtain ⟨id, rows, e3, e4, e5, e6⟩ := q.out
 refine ⟨id, rows, rows[i]'om, e4, e5, List.getElem?_eq_getElem om, ?_⟩
 have : l[i]? = some (l.getD i (.int 0)) := by simp [hi]
 exact e6 i _ _ this (List.getElem?_eq_getElem om)
theorem sm : ∀ {a b : List AV}, cw a = true → cw b = true → cw (a ++ b) = true
 | [], b, _, h => h
 | x :: a, b, h1, h2 => by
  unfold cw at h1
  cases hx : Ev.one x with
  | false => rw [hx] at h1; cases h1
  | true =>
   rw [hx] at h1
   simp only [List.cons_append, cw, hx]
   exact sm h1 h2
mutual
theorem Rp.cw {B : Nat} {fl : Bool} {h : H} : ∀ {sh : Sh} {d : Dt} {cs : List AV}, Rp B fl h sh d cs → Ev.cw cs = true
 | .int k, d, cs, q => by
  simp only [Rp] at q
  obtain ⟨n, _, rfl⟩ := q
  rfl
 | .str, d, cs, q => by
  simp only [Rp] at q
  obtain ⟨n, _, rfl⟩ := q
  rfl
 | .bool, d, cs, q => by
  simp only [Rp] at q
  obtain ⟨n, _, rfl⟩ := q
  rfl
 | .row shs, d, cs, q => by
  simp only [Rp] at q
  obtain ⟨l, _, q⟩ := q
  exact kE.cw q
 | .arr e, d, cs, q => by
  simp only [Rp] at q
  rcases q with ⟨l, sv, id, rows, _, rfl, _, ho, _⟩ | ⟨_, n, oa, cp, _, rfl, _⟩
  ·simp only [Ev.cw, ho]; rfl
  ·rfl
theorem kE.cw {B : Nat} {fl : Bool} {h : H} : ∀ {shs : List Sh} {ds : List Dt} {cs : List AV}, kE B fl h shs ds cs → Ev.cw cs = true
 | [], ds, cs, q => by
  simp only [kE] at q
  obtain ⟨_, rfl⟩ := q
  rfl
 | s :: shs, ds, cs, q => by
  simp only [kE] at q
  obtain ⟨d, ds', a, b, _, rfl, q1, q2⟩ := q
  exact sm (Rp.cw q1) (kE.cw q2)
end
/-! one step -/
section
variable {B : Nat} {fl : Bool} {h : H} {d : Dt} {ds : List Dt} {cs : List AV}
theorem OX {k : IntKind} (q : Rp B fl h (.int k) d cs) : ∃ n, d = .int n ∧ cs = [.int k n] := by simpa only [Rp] using q
theorem OY (q : Rp B fl h .str d cs) : ∃ s, d = .str s ∧ cs = [.str s] := by simpa only [Rp] using q
theorem LU (q : Rp B fl h .bool d cs) : ∃ b, d = .bool b ∧ cs = [.bool b] := by simpa only [Rp] using q
theorem OZ {l : List Sh} (q : Rp B fl h (.row l) d cs) : ∃ ds, d = .row ds ∧ kE B fl h l ds cs := by simpa only [Rp] using q
theorem Jp {s : Sh} {l : List Sh} (q : kE B fl h (s :: l) ds cs) : ∃ d ds' a b, ds = d :: ds' ∧ cs = a ++ b ∧ Rp B fl h s d a ∧ kE B fl h l ds' b := by simpa only [kE] using q
theorem LV (q : kE B fl h [] ds cs) : ds = [] ∧ cs = [] := by simpa only [kE] using q
end
/-! data without slices that are not looked into -/
mutual
def nb : Sh → Dt → Prop
 | .row shs, d => Rc shs d.l
 | .arr e, d => (∃ l, d = .arr l) ∧ ∀ (i : Nat) (x : Dt), d.l[i]? = some x → nb e x
 | .int _, _ => True
 | .str, _ => True
 | .bool, _ => True
def Rc : List Sh → List Dt → Prop
 | [], _ => True
 | s :: shs, ds => match ds with
  | [] => True
  | d :: ds => nb s d ∧ Rc shs ds
end
mutual
theorem Rp.full {B : Nat} {h : H} : ∀ {sh : Sh} {d : Dt} {cs : List AV}, Rp B false h sh d cs → nb sh d → Rp B true h sh d cs
 | .int k, d, cs, q, _ => by simpa only [Rp] using q
 | .str, d, cs, q, _ => by simpa only [Rp] using q
 | .bool, d, cs, q, _ => by simpa only [Rp] using q
 | .row shs, d, cs, q, hn => by
  simp only [Rp] at q ⊢
  obtain ⟨l, rfl, q⟩ := q
  simp only [nb] at hn
  exact ⟨l, rfl, kE.full q hn⟩
 | .arr e, d, cs, q, hn => by
  simp only [nb] at hn
  obtain ⟨⟨l0, rfl⟩, hn⟩ := hn
  simp only [Rp] at q ⊢
  rcases q with ⟨l, sv, id, rows, e1, e2, e0, e3, e4, e5, e6⟩ | ⟨_, n, oa, cp, e1, _⟩
  ·cases e1
   exact Or.inl ⟨l0, sv, id, rows, rfl, e2, e0, e3, e4, e5, fun i x row h1 h2 => Rp.full (e6 i x row h1 h2) (hn i x h1)⟩
  ·cases e1
theorem kE.full {B : Nat} {h : H} : ∀ {shs : List Sh} {ds : List Dt} {cs : List AV}, kE B false h shs ds cs → Rc shs ds → kE B true h shs ds cs
 | [], ds, cs, q, _ => by simpa only [kE] using q
 | s :: shs, ds, cs, q, hn => by
  simp only [kE] at q ⊢
  obtain ⟨d, ds', a, b, rfl, e2, q1, q2⟩ := q
  simp only [Rc] at hn
  exact ⟨d, ds', a, b, rfl, e2, Rp.full q1 hn.1, kE.full q2 hn.2⟩
end
end Go.Proofs.YtgaihilgffficaaGreatDoor.Ev
