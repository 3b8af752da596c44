/- CoverStates, part 19 -/
import Derived.Test.YtgaihilgffficaaGreatDoorPvC
set_option linter.all false
namespace Go.Proofs.YtgaihilgffficaaGreatDoor.Ev
open Go
variable [Gb]
theorem BL : ∀ {l : List AV}, (∀ x ∈ l, Ev.one x = true) → Ev.cw l = true
 | [], _ => rfl
 | x :: l, h => by
  simp only [Ev.cw, h x (by simp)]
  exact BL fun y hy => h y (by simp [hy])
theorem BM : ∀ {l : List AV}, Ev.cw l = true → ∀ x ∈ l, Ev.one x = true
 | [], _, x, hx => by simp at hx
 | y :: l, h, x, hx => by
  unfold Ev.cw at h
  cases hy : Ev.one y with
  | false => rw [hy] at h; cases h
  | true =>
   rw [hy] at h
   rcases List.mem_cons.1 hx with rfl | q
   ·exact hy
   ·exact BM h x q
inductive Src (S : aX) (e : Nat) : PV → Nat → (Nat → List PV) → Prop
 | tr (m : Nat) (rows : Nat → List PV) : Src S e (.tr e m rows) m rows
 | own (q : Nat) (bp : Option Nat) (m n : Nat) (rows : Nat → List PV) : aI S q = some (bp, .arr e n rows) → m ≤ n → Src S e (.own q bp m e) m rows
 | aO (rows : Nat → List PV) : Src S e .aO 0 rows
inductive Rb (S : aX) (e d : Nat) : PV → Nat → Nat → (Nat → List PV) → Prop
 | aO (rows : Nat → List PV) : Rb S e d .aO d 0 rows
 | own (p : Nat) (bp : Option Nat) (k n : Nat) (rows : Nat → List PV) : aI S p = some (bp, .arr e n rows) → k ≤ n → Rb S e d (.own p bp k e) p k rows
def lL (k : Nat) (r1 r2 : Nat → List PV) : Nat → List PV := fun i => if i < k then r1 i else r2 (i - k)
structure nF (h : H) (F : Nat → Prop) (e m : Nat) (rows : Nat → List PV) (us : List AV) : Prop where
 len : us.length = m * e
 rl : ∀ i, i < m → (rows i).length = e
 at_ : ∀ i, i < m → Rs h F (rows i) ((us.drop (i * e)).take e)
theorem nF.cw {h : H} {F : Nat → Prop} {e m : Nat} {rows : Nat → List PV} {us : List AV} (l : nF h F e m rows us) (ho : ∀ i, i < m → PV.cw (rows i) = true) : Ev.cw us = true := BL fun x hx => by
 obtain ⟨t, ht, rfl⟩ := List.mem_iff_getElem.1 hx
 have hl := l.len
 have he : 0 < e := by
  rcases Nat.eq_zero_or_pos e with q | q
  ·subst q; rw [Nat.mul_zero] at hl; omega
  ·exact q
 have hi : t / e < m := (Nat.div_lt_iff_lt_mul he).2 (by rw [← hl]; exact ht)
 have h1 := (l.at_ _ hi).cw (ho _ hi)
 refine BM h1 _ ?_
 have h2 : t / e * e + t % e = t := by rw [Nat.mul_comm]; exact Nat.div_add_mod t e
 have h3 := Nat.mod_lt t he
 refine List.mem_of_getElem? (i := t % e) ?_
 rw [List.getElem?_take, if_pos h3, List.getElem?_drop, h2]
 simp [ht]
theorem nF.app {h : H} {F : Nat → Prop} {e k m : Nat} {r1 r2 : Nat → List PV} {us vs : List AV} (a : nF h F e k r1 us) (b : nF h F e m r2 vs) : nF h F e (k + m) (lL k r1 r2) (us ++ vs) := by
 have hal := a.len
 have hbl := b.len
 refine ⟨by rw [List.length_append, hal, hbl, Nat.add_mul], fun i hi => ?_, fun i hi => ?_⟩
 ·unfold lL
  by_cases x : i < k
  ·rw [if_pos x]; exact a.rl i x
  ·rw [if_neg x]; exact b.rl _ om
 ·unfold lL
  by_cases x : i < k
  ·rw [if_pos x]
   have := Nat.mul_le_mul_right e x
   rw [Nat.succ_mul] at this
   rw [List.drop_append_of_le_length (by omega), List.take_append_of_le_length (by rw [List.length_drop]; omega)]
   exact a.at_ i x
  ·rw [if_neg x]
   have hk : k ≤ i := by omega
   have h2 := Nat.mul_le_mul_right e hk
   have h3 : (us ++ vs).drop (i * e) = vs.drop ((i - k) * e) := by
    rw [List.drop_append, List.drop_eq_nil_of_le (by omega), List.nil_append, hal, Nat.sub_mul]
   rw [h3]
   exact b.at_ _ om
theorem nF.rb {h : H} {F : Nat → Prop} {e m : Nat} {rows : Nat → List PV} {us : List AV} (l : nF h F e m rows us) : RB h F (.arr e m rows) (.cells us) := .arr _ _ _ _ (by rw [l.len]; exact Nat.le_refl _) l.rl l.at_
theorem zl {h : H} {F : Nat → Prop} {e m : Nat} {rows : Nat → List PV} {vs : List AV} {off : Nat} (hl : off + m * e ≤ vs.length) (h1 : ∀ i, i < m → (rows i).length = e) (h2 : ∀ i, i < m → Rs h F (rows i) ((vs.drop (off + i * e)).take e)) : nF h F e m rows ((vs.drop off).take (m * e)) := by
 refine ⟨by simp; omega, h1, fun i hi => ?_⟩
 have := Nat.mul_le_mul_right e hi
 rw [Nat.succ_mul] at this
 have e1 : (((vs.drop off).take (m * e)).drop (i * e)).take e = (vs.drop (off + i * e)).take e := by
  rw [List.drop_take, List.take_take, List.drop_drop]
  congr 1
  omega
 rw [e1]
 exact h2 i hi
theorem Jg {c : C} {h : H} {F : Nat → Prop} {S : aX} (s : St c h F S) {e m : Nat} {v : PV} {rows : Nat → List PV} (q : Src S e v m rows) {a : AV} (r : R h F v a) : ∃ us, nF h F e m rows us ∧ ∀ k : Nat → List AV → Out, wC c h e a k = k m us := by
 have nil : ∀ rows, nF h F e 0 rows [] := fun rows => ⟨by simp, fun i hi => absurd hi (Nat.not_lt_zero _), fun i hi => absurd hi (Nat.not_lt_zero _)⟩
 cases q with
 | tr =>
  cases r with
  | wD _ _ _ q =>
   rcases q with rfl | ⟨oa, cp, rfl⟩ | ⟨id, off, cap, vs, rfl, q1, q2, q3⟩
   ·exact ⟨[], nil _, fun k => rfl⟩
   ·exact ⟨[], nil _, fun k => rfl⟩
   ·exact ⟨[], nil _, fun k => zm (s.fr id q1).2 q2 rfl om (by simp)⟩
  | tr _ _ _ id off cap vs g0 g1 g2 g3 g4 g5 => exact ⟨_, zl g3 g4 g5, fun k => zm (s.fr id g1).2 g2 rfl g3 rfl⟩
 | own p bp m n rows e1 hle =>
  cases r with
  | own _ id _ _ cap hbn =>
   obtain ⟨_, h1, _, ab, h2, h3⟩ := s.at_ e1 (fun q => by cases q)
   cases h3 with
   | arr _ _ _ azs q1 q2 q3 =>
    have := Nat.mul_le_mul_right e hle
    exact ⟨(azs.drop 0).take (m * e), zl om (fun i hi => q2 i om) (fun i hi => by rw [Nat.zero_add]; exact q3 i om), fun k => zm h1 h2 rfl om rfl⟩
  | rz => exact ⟨[], nil _, fun k => rfl⟩
 | aO rows => cases r; exact ⟨[], nil _, fun k => rfl⟩
section
variable {P : Program} {X : dg} {M : Mf} {d : Nat} {G : aZ} {S : aX} {K : PV → aX → Prop} {op : SO} {K0 : PV → Prop} {K1 : (Nat → PV) → PB → Prop}
theorem gI {e by_ : Nat} {s x : XV} {t v : PV} {p k m : Nat} {r1 r2 : Nat → List PV} (hk : ∀ bp, (0 < k + m → ∃ id, bp = some id) → K (.own p bp (k + m) e) ((p, bp, .arr e (k + m) (lL k r1 r2)) :: S)) (hs : ca G s = some t) (hx : ca G x = some v) (ht : Rb S e d t p k r1) (hv : Src S e v m r2) (ho : ∀ i, i < m → PV.cw (r2 i) = true) (hb : (k + m) * by_ ≤ 140737488355328) (hby : 0 < by_) : PO P X M d (.append e by_ s x) G S K := ⟨fun c h F env st r => by
 obtain ⟨a, e1, q1⟩ := r.ev hs
 obtain ⟨b, e2, q2⟩ := r.ev hx
 obtain ⟨us, l2, hsrc⟩ := Jg st hv q2
 have hones := l2.cw ho
 have fin : ∀ (h1 : H) (bp : Option Nat) (av : AV), (0 < k + m → ∃ id, bp = some id) → St c h1 F ((p, bp, .arr e (k + m) (lL k r1 r2)) :: S) ∧ Ext h F S h1 F ((p, bp, .arr e (k + m) (lL k r1 r2)) :: S) → R h1 F (.own p bp (k + m) e) av → ∃ p' S' F', Ext h F S h1 F' S' ∧ St c h1 F' S' ∧ R h1 F' p' av ∧ K p' S' := fun h1 bp av g1 g2 g3 => ⟨_, _, F, g2.2, g2.1, g3, hk bp g1⟩
 have zero : m = 0 → dX env s = some a → WO P X M c (.append e by_ s x) env h (fun v h' => ∃ p S' F', Ext h F S h' F' S' ∧ St c h' F' S' ∧ R h' F' p v ∧ K p S') := fun hm es => by
  subst hm
  have hu : us = [] := by have := l2.len; simpa using this
  subst hu
  have key : ∀ bp, (0 < k + 0 → ∃ id, bp = some id) → (∀ id, bp = some id → (∃ b, aI S p = some (some id, b) ∧ b ≠ .dead) ∧ ∃ ab, h.get id = some ab ∧ ∀ F' : Nat → Prop, (∀ i, F i → F' i ∧ h.get i = h.get i) → RB h F' (.arr e (k + 0) (lL k r1 r2)) ab) → R h F (.own p bp (k + 0) e) a → ∃ p' S' F', Ext h F S h F' S' ∧ St c h F' S' ∧ R h F' p' a ∧ K p' S' := fun bp g1 g2 g3 =>
   fin h bp a g1 (st.nK (Nat.le_refl _) (fun _ _ _ => rfl) fun id bV _ => ⟨Or.inr (g2 id bV).1, (g2 id bV).2⟩) g3
  cases ht with
  | aO =>
   cases q1
   exact bq (fun sl hh call k => by simp only [SO.den, eI, hh.ev e1, hh.ev e2]; rw [hsrc]; rfl) (key none (fun x => absurd x om) (fun id q => by cases q) (.rz _ _))
  | own _ bp _ n _ g1 g2 =>
   cases q1 with
   | rz => exact bq (fun sl hh call k => by simp only [SO.den, eI, hh.ev e1, hh.ev e2]; rw [hsrc]; rfl) (key none (fun x => absurd x om) (fun id q => by cases q) (.rz _ _))
   | own _ id _ _ cap hbn =>
    refine bq (fun sl hh call k => by
     simp only [SO.den, eI, hh.ev e1, hh.ev e2]; rw [hsrc]
     have : Nat.beq e e = true := by simp
     simp only [Ev.cw, cond, p6, this]) (key (some id) (fun _ => ⟨id, rfl⟩) (fun i q => ?_) (.own _ _ _ _ cap hbn))
    cases q
    obtain ⟨_, _, _, ab, h2, h3⟩ := st.at_ g1 (fun q => by cases q)
    refine ⟨⟨_, g1, fun q => by cases q⟩, ab, h2, fun F' hm => ?_⟩
    have h4 := h3.mono hm
    cases h4 with
    | arr _ _ _ azs w1 w2 w3 =>
     have := Nat.mul_le_mul_right e g2
     refine .arr _ _ _ _ (by rw [Nat.add_zero]; omega) (fun i hi => ?_) fun i hi => ?_
     ·unfold lL; rw [if_pos (by omega)]; exact w2 i om
     ·unfold lL; rw [if_pos (by omega)]; exact w3 i om
 by_cases hm : m = 0
 ·exact zero hm e1
 have hnb : Nat.beq m 0 = false := by rw [mS]; simp [hm]
 have hbl : Nat.blt 140737488355328 (Nat.mul (k + m) by_) = false := xu hb
 have hkm : k + m ≤ 140737488355328 := Nat.le_trans (Nat.le_mul_of_pos_right _ hby) hb
 have made : ∀ (h0 : H) (l : List AV), h0.n = h.n → (∀ j, j < h.n → (∀ b, aI S p = some (some j, b) → b = .dead) → h0.get j = h.get j) → (∀ i, F i → h0.get i = h.get i) → nF h F e (k + m) (lL k r1 r2) l → ∃ p' S' F', Ext h F S (h0.new (.cells l)) F' S' ∧ St c (h0.new (.cells l)) F' S' ∧ R (h0.new (.cells l)) F' p' (.sl h0.n 0 (k + m) e none) ∧ K p' S' := fun h0 l hn hg hgF hl => by
  refine fin _ (some h0.n) _ (fun _ => ⟨_, rfl⟩) (st.nK (by rw [vx]; omega) (fun j hj hd => ?_) fun id bV _ => ?_) (.own _ _ _ _ _ om)
  ·rw [ir (Nat.lt_succ_self _) _ (by omega)]; exact hg j hj hd
  ·cases bV
   refine ⟨Or.inl ⟨hn, by rw [vx]; omega⟩, _, lg (Nat.lt_succ_self _) _, fun F' hm => hl.rb.mono fun i hi => ⟨(hm i hi).1, ?_⟩⟩
   exact (hm i hi).2
 have fr : ∀ (id : Nat), F id → id < h.n := fun id q => (st.fr id q).1
 cases ht with
 | aO =>
  cases q1
  have l0 : nF h F e 0 r1 [] := ⟨by simp, fun i hi => absurd hi (Nat.not_lt_zero _), fun i hi => absurd hi (Nat.not_lt_zero _)⟩
  have hl := l0.app l2
  rw [List.nil_append] at hl
  have q := made h us rfl (fun _ _ _ => rfl) (fun _ _ => rfl) hl
  rw [Nat.zero_add] at hbl q
  exact bq (fun sl hh call k => by
   simp only [SO.den, eI, hh.ev e1, hh.ev e2]; rw [hsrc]
   simp only [hones, cond, p6, hnb, hbl]
   rw [gW (Nat.lt_succ_self _)]) q
 | own _ bp _ n _ g1 g2 =>
  cases q1 with
  | rz =>
   have l0 : nF h F e 0 r1 [] := ⟨by simp, fun i hi => absurd hi (Nat.not_lt_zero _), fun i hi => absurd hi (Nat.not_lt_zero _)⟩
   have hl := l0.app l2
   rw [List.nil_append] at hl
   have q := made h us rfl (fun _ _ _ => rfl) (fun _ _ => rfl) hl
   rw [Nat.zero_add] at hbl q
   exact bq (fun sl hh call k => by
    simp only [SO.den, eI, hh.ev e1, hh.ev e2]; rw [hsrc]
    simp only [hones, cond, p6, hnb, hbl]
    rw [gW (Nat.lt_succ_self _)]) q
  | own _ id _ _ cap hbn =>
   obtain ⟨f1, f2, f3, ab, h2, h3⟩ := st.at_ g1 (fun q => by cases q)
   cases h3 with
   | arr _ _ _ azs w1 w2 w3 =>
    have hke := Nat.mul_le_mul_right e g2
    have l1 : nF h F e k r1 ((azs.drop 0).take (k * e)) := zl om (fun i hi => w2 i om) (fun i hi => by rw [Nat.zero_add]; exact w3 i om)
    have hl := l1.app l2
    have hbe : Nat.beq e e = true := by simp
    cases hc : gk cap (k + m) with
    | true =>
     refine bq (fun sl hh call k' => ?_) (made h _ rfl (fun _ _ _ => rfl) (fun _ _ => rfl) hl)
     simp only [SO.den, eI, hh.ev e1, hh.ev e2]
     rw [hsrc]
     simp only [hones, cond, p6, hbe, hnb, dD, dV f2, h2]
     rw [gw _ _ _ (by omega)]
     show gh (k * e) _ _ = _
     rw [gx _ _ _ (by simp; omega)]
     simp only [fv, bn]
     show (bif Nat.blt 140737488355328 (Nat.mul (k + m) by_) then _ else _) = _
     rw [hbl]
     simp only [cond]
     show (bif gk cap (k + m) then _ else _) = _
     rw [hc]
     simp only [cond]
     rw [gW (Nat.lt_succ_self _)]; rfl
    | false =>
     refine bq (fun sl hh call k' => ?_) (made (h.put id .dead) _ rfl (fun j hj hd => ?_) (fun i hi => ?_) hl)
     ·simp only [SO.den, eI, hh.ev e1, hh.ev e2]
      rw [hsrc]
      simp only [hones, cond, p6, hbe, hnb, dD, dV f2, h2]
      rw [gw _ _ _ (by omega)]
      show gh (k * e) _ _ = _
      rw [gx _ _ _ (by simp; omega)]
      simp only [fv, bn]
      show (bif Nat.blt 140737488355328 (Nat.mul (k + m) by_) then _ else _) = _
      rw [hbl]
      simp only [cond]
      show (bif gk cap (k + m) then _ else _) = _
      rw [hc]
      simp only [cond]
      rw [tB f1 f2, gW (h := h.put id .dead) (Nat.lt_succ_self _)]; rfl
     ·exact jX (Nat.lt_succ_self _) _ fun q => by
        subst q
        have := hd _ g1
        cases this
     ·exact jX (Nat.lt_succ_self _) _ fun q => by
        subst q
        exact (st.own p _ _ g1 (fun q => by cases q)).2.2.2.1 hi⟩
/-! parts of slices -/
def nG (G : aZ) (z : Int) : Option XV → Option Int
 | none => some z
 | some x => match ca G x with
  | some (.int _ n) => some n
  | _ => none
theorem sj {h : H} {F : Nat → Prop} {env : bu} (r : RE h F G env) {z : Nat} {x : Option XV} {n : Int} (e : nG G z x = some n) (h0 : 0 ≤ n) : Gk env z x = some n.toNat := by
 cases x with
 | none => cases e; rfl
 | some x =>
  simp only [nG] at e
  split at e
  ·rename_i k m hx
   cases e
   obtain ⟨a, e1, q⟩ := r.ev hx
   cases q
   obtain ⟨j, rfl⟩ := Int.eq_ofNat_of_zero_le h0
   simp only [Gk, e1]; rfl
  ·cases e
theorem Gl {e : Nat} {x : XV} {lo hi : Option XV} {p n : Nat} {bp : Option Nat} {u : Int} (hk : K0 (.own p bp u.toNat e)) (hx : ca G x = some (.own p bp n e) := by exact rfl) (hl : nG G 0 lo = some 0 := by exact rfl) (hu : nG G n hi = some u := by exact rfl) (h0 : 0 ≤ u := by omega) (h1 : u ≤ (n : Int) := by omega) : kG P X M (.slice e x lo hi) G K0 :=
 eJ (p := .own p bp u.toNat e) (fun c h F env r K k => by
  obtain ⟨a, e1, q⟩ := r.ev hx
  have l1 := sj r (z := 0) hl (Int.le_refl 0)
  have l2 := sj r (z := n) hu h0
  cases q with
  | own _ id _ _ cap hbn =>
   have q2 : u.toNat ≤ n := by omega
   refine bq (fun sl hs call k' => ?_) (k (.sl id 0 u.toNat e (cap.map fun c => c - 0)) (.own _ _ _ _ _ om))
   have b1 : Nat.ble 0 u.toNat = true := Nat.ble_eq_true_of_le (Nat.zero_le _)
   have b2 : Nat.ble u.toNat n = true := Nat.ble_eq_true_of_le q2
   have b3 : Nat.beq e e = true := by simp
   have o1 : cU sl 0 lo = some 0 := jY hs l1
   have o2 : cU sl n hi = some u.toNat := jY hs l2
   simp only [SO.den, mi, hs.ev e1, o1, o2, b1, b2, b3, Bool.and_self, cond, bn]
   have z1 : Nat.add 0 (Nat.mul 0 e) = 0 := by simp
   have z2 : Nat.sub u.toNat 0 = u.toNat := by simp
   rw [z1, z2]
   cases cap <;> rfl
  | rz =>
   have hu0 : u = 0 := by omega
   subst hu0
   exact Gm e1 l1 l2 (k _ (.rz _ _))) hk
theorem iL {e : Nat} {x : XV} {lo hi : Option XV} {n : Nat} {rows : Nat → List PV} {l u : Int} (hk : K0 (.tr e (u - l).toNat (fun i => rows (i + l.toNat)))) (hx : ca G x = some (.tr e n rows) := by exact rfl) (hl : nG G 0 lo = some l := by exact rfl) (hu : nG G n hi = some u := by exact rfl) (hn : 0 < n := by omega) (h0 : 0 ≤ l := by omega) (h1 : l ≤ u := by omega) (h2 : u ≤ (n : Int) := by omega) : kG P X M (.slice e x lo hi) G K0 :=
 eJ (p := .tr e (u - l).toNat (fun i => rows (i + l.toNat))) (fun c h F env r K k => by
  obtain ⟨a, e1, q⟩ := r.ev hx
  have l1 := sj r (z := 0) hl h0
  have l2 := sj r (z := n) hu om
  cases q with
  | wD => omega
  | tr _ _ _ id off cap vs g0 g1 g2 g3 g4 g5 =>
   have q1 : l.toNat ≤ u.toNat := by omega
   have q2 : u.toNat ≤ n := by omega
   have hm : (u - l).toNat = u.toNat - l.toNat := by omega
   rw [hm] at k
   refine bq (fun sl hs call k' => ?_) (k (.sl id (off + l.toNat * e) (u.toNat - l.toNat) e (cap.map fun c => c - l.toNat)) ?_)
   ·have b1 : Nat.ble l.toNat u.toNat = true := Nat.ble_eq_true_of_le q1
    have b2 : Nat.ble u.toNat n = true := Nat.ble_eq_true_of_le q2
    have b3 : Nat.beq e e = true := by simp
    have o1 : cU sl 0 lo = some l.toNat := jY hs l1
    have o2 : cU sl n hi = some u.toNat := jY hs l2
    simp only [SO.den, mi, hs.ev e1, o1, o2, b1, b2, b3, Bool.and_self, cond, bn]
    cases cap <;> rfl
   ·have h6 := Nat.mul_le_mul_right e q2
    have h7 : l.toNat * e + (u.toNat - l.toNat) * e = u.toNat * e := by rw [← Nat.add_mul]; congr 1; omega
    by_cases hz : u.toNat - l.toNat = 0
    ·rw [hz]
     exact .wD _ _ _ (Or.inr (Or.inr ⟨id, _, _, vs, rfl, g1, g2, om⟩))
    ·refine .tr _ _ _ id _ _ vs ⟨om, by have := g0.2; omega⟩ g1 g2 om (fun i hi => g4 _ om) fun i hi => ?_
     have e2 : off + l.toNat * e + i * e = off + (i + l.toNat) * e := by rw [Nat.add_mul]; omega
     rw [e2]
     exact g5 _ om) hk
/-! texts -/
theorem fj {x i : XV} {s : List Nat} {ik : IntKind} {z : Int} (hk : K0 (.int .u8 ((s.getD z.toNat 0 : Nat) : Int))) (hx : ca G x = some (.str s) := by exact rfl) (hi : ca G i = some (.int ik z) := by exact rfl) (h0 : 0 ≤ z := by omega) (h1 : z < (s.length : Int) := by omega) : kG P X M (.l5 x i) G K0 :=
 eJ (p := .int .u8 ((s.getD z.toNat 0 : Nat) : Int)) (fun c h F env r K k => by
  obtain ⟨a, e1, q1⟩ := r.ev hx
  obtain ⟨b, e2, q2⟩ := r.ev hi
  cases q1; cases q2
  obtain ⟨j, rfl⟩ := Int.eq_ofNat_of_zero_le h0
  have hj : j < s.length := by omega
  refine bq (fun sl hs call k' => ?_) (k _ (.int _ _))
  have e3 : asNat (.int ik (Int.ofNat j)) = some j := rfl
  have e4 : (Int.ofNat j).toNat = j := rfl
  simp only [SO.den, A7, hs.ev e1, hs.ev e2]
  show (match AV.str s, asNat (.int ik (Int.ofNat j)) with | .str s, some i => _ | _, _ => none) = _
  rw [e3]
  simp only [gP]
  have e5 : s[j]? = some (s.getD j 0) := by simp [hj]
  rw [e5]; rfl) hk
theorem eQ {x i : XV} {s : List Nat} {ik : IntKind} (hk : K0 (.int .u8 ((s.getD 0 0 : Nat) : Int))) (hx : ca G x = some (.str s) := by exact rfl) (hi : ca G i = some (.int ik 0) := by exact rfl) (h1 : 0 < s.length := by omega) : kG P X M (.l5 x i) G K0 := fj (z := 0) hk hx hi om om
theorem eR {x i : XV} {s : List Nat} {ik : IntKind} {j : Nat} (hk : K0 (.int .u8 ((s.getD j 0 : Nat) : Int))) (hx : ca G x = some (.str s) := by exact rfl) (hi : ca G i = some (.int ik (j : Int)) := by exact rfl) (h1 : j < s.length := by omega) : kG P X M (.l5 x i) G K0 := fj hk hx hi om om
theorem qK {x : XV} {lo hi : Option XV} {s : List Nat} {l u : Int} (hk : K0 (.str ((s.drop l.toNat).take (u - l).toNat))) (hx : ca G x = some (.str s) := by exact rfl) (hl : nG G 0 lo = some l := by exact rfl) (hu : nG G s.length hi = some u := by exact rfl) (h0 : 0 ≤ l := by omega) (h1 : l ≤ u := by omega) (h2 : u ≤ (s.length : Int) := by omega) : kG P X M (.ub x lo hi) G K0 :=
 eJ (p := .str ((s.drop l.toNat).take (u - l).toNat)) (fun c h F env r K k => by
  obtain ⟨a, e1, q1⟩ := r.ev hx
  cases q1
  have l1 := sj r (z := 0) hl h0
  have l2 := sj r (z := s.length) hu om
  refine bq (fun sl hs call k' => ?_) (k _ (.str _))
  have o1 : cU sl 0 lo = some l.toNat := jY hs l1
  have o2 : cU sl s.length hi = some u.toNat := jY hs l2
  have b1 : Nat.ble l.toNat u.toNat = true := Nat.ble_eq_true_of_le om
  have b2 : Nat.ble u.toNat s.length = true := Nat.ble_eq_true_of_le om
  have hm : Nat.sub u.toNat l.toNat = (u - l).toNat := by show u.toNat - l.toNat = _; omega
  simp only [SO.den, pZ, hs.ev e1, dw, o1, o2, b1, b2, Bool.and_self, cond]
  rw [gw _ _ _ (by omega), hm, gx _ _ _ (by simp; omega)]) hk
/-! new slices -/
theorem QC {h : H} {F : Nat → Prop} {z : List AV} {zs : List PV} (hz : eC z = some zs) (n : Nat) : nF h F z.length n (fun _ => zs) (List.replicate n z).flatten := by
 have hzl := rB hz
 have hr := jI h F z zs hz
 have key : ∀ i n, i < n → (((List.replicate n z).flatten).drop (i * z.length)).take z.length = z := by
  intro i
  induction i with
  | zero => intro n hn; cases n with | zero => omega | succ n => simp [List.replicate_succ]
  | succ i ih => intro n hn; cases n with
   | zero => omega
   | succ n =>
    rw [List.replicate_succ, List.flatten_cons, Nat.succ_mul, Nat.add_comm, List.drop_append, List.drop_eq_nil_of_le (by omega), List.nil_append]
    have := ih n om
    rw [show z.length + i * z.length - z.length = i * z.length by omega]
    exact this
 refine ⟨by simp, fun i _ => hzl, fun i hi => ?_⟩
 rw [key i n hi]; exact hr
theorem CS {z : List AV} {zs : List PV} {l cp : XV} {k1 k2 : IntKind} {a b : Int} (hk : K1 (fun id => .own d (some id) a.toNat z.length) (.arr z.length b.toNat (fun _ => zs))) (hz : eC z = some zs := by exact rfl) (hl : ca G l = some (.int k1 a) := by exact rfl) (hc : ca G cp = some (.int k2 b) := by exact rfl) (h0 : 0 ≤ a := by omega) (h1 : a ≤ b := by omega) (h2 : b < 1000000 := by omega) : Jb P X M d (.tm z l cp) G K1 := ⟨fun c h F env r K' k => by
 obtain ⟨u, e1, q1⟩ := r.ev hl
 obtain ⟨v, e2, q2⟩ := r.ev hc
 cases q1; cases q2
 obtain ⟨i, rfl⟩ := Int.eq_ofNat_of_zero_le h0
 obtain ⟨j, rfl⟩ := Int.eq_ofNat_of_zero_le (show 0 ≤ b by omega)
 have b1 : Nat.ble i j = true := Nat.ble_eq_true_of_le om
 have b2 : Nat.blt j 1000000 = true := by simp [Nat.blt_eq]; omega
 refine bq (fun sl hs call k' => ?_) (k _ _ _ (.sl h.n 0 i z.length (some j)) (QC (h := h) (F := F) hz j).rb (fun h' => .own _ _ _ _ (some j) (by show i ≤ _; omega)) (fun q => by cases q) hk)
 have c1 : asNat (.int k1 ((i : Nat) : Int)) = some i := rfl
 have c2 : asNat (.int k2 ((j : Nat) : Int)) = some j := rfl
 simp only [SO.den, mj, hs.ev e1, hs.ev e2, c1, c2, b1, b2, Bool.and_self, cond, qn]
 rw [gW (Nat.lt_succ_self _), dw]⟩
end
/-! what lies in the store becomes data -/
mutual
inductive Zf (S : aX) : PV → PV → Prop
 | refl (p : PV) : Zf S p p
 | own (q : Nat) (bp : Option Nat) (m e n : Nat) (rows rows' : Nat → List PV) : aI S q = some (bp, .arr e n rows) → m ≤ n → (∀ i, i < m → c5 S (rows i) (rows' i)) → Zf S (.own q bp m e) (.tr e m rows')
 | ptr (q id off : Nat) (vs vs' : List PV) : aI S q = some (some id, .cells vs) → c5 S vs vs' → Zf S (.ptr q id off) (.fp vs' off)
 | qD (q id : Nat) (f : List Nat → Option PV) : aI S q = some (some id, .jO f) → Zf S (.qD q id) (.Mh f)
 | aO (e : Nat) (rows : Nat → List PV) : Zf S .aO (.tr e 0 rows)
 | tr (e n : Nat) (rows rows' : Nat → List PV) : (∀ i, i < n → c5 S (rows i) (rows' i)) → Zf S (.tr e n rows) (.tr e n rows')
 | vO (q : Nat) (e : Nat) : Zf S .aO (.own q none 0 e)
 | agg (ps qs : List PV) : c5 S ps qs → Zf S (.agg ps) (.agg qs)
 | bO (ps qs : List PV) : c5 S ps qs → Zf S (.bO ps) (.bO qs)
 | fn (f : Nat) (ps qs : List PV) : c5 S ps qs → Zf S (.fn f ps) (.fn f qs)
 | M9 (q q' : Nat) (bp : Option Nat) (n e : Nat) : Zf S (.own q bp n e) (.own q' bp n e)
 | Rn (q q' id off : Nat) : Zf S (.ptr q id off) (.ptr q' id off)
 | S6 (q q' id i off e : Nat) : Zf S (.ib q id i off e) (.ib q' id i off e)
 | S7 (q q' id : Nat) : Zf S (.qD q id) (.qD q' id)
inductive c5 (S : aX) : List PV → List PV → Prop
 | nil : c5 S [] []
 | cons (p q : PV) (ps qs : List PV) : Zf S p q → c5 S ps qs → c5 S (p :: ps) (q :: qs)
end
theorem c5.refl {S : aX} : ∀ (l : List PV), c5 S l l
 | [] => .nil
 | p :: l => .cons p p l l (.refl p) (c5.refl l)
theorem c5.of_eq {S : aX} {l m : List PV} (e : l = m) : c5 S l m := e ▸ c5.refl l
theorem c5.len {S : aX} : ∀ {ps qs : List PV}, c5 S ps qs → qs.length = ps.length
 | _, _, .nil => rfl
 | _, _, .cons p q ps qs _ r => by simp [c5.len r]
def nH (F : Nat → Prop) (S : aX) : Nat → Prop := fun id => F id ∨ Live S id
theorem Zf.lay {S S0 : aX} {c : C} {h : H} {F : Nat → Prop} (st : St c h F S0) (hS : ∀ q x, aI S q = some x → aI S0 q = some x) {p q : PV} (z : Zf S p q) : ∀ a, R h F p a → R h (nH F S) q a :=
 Zf.rec (motive_1 := fun p q _ => ∀ a, R h F p a → R h (nH F S) q a) (motive_2 := fun ps qs _ => ∀ azs, Rs h F ps azs → Rs h (nH F S) qs azs)
  (fun p a r => r.mono fun id q => ⟨Or.inl q, rfl⟩)
  (fun q bp m e n rows rows' e1 hle _ ih a r => by
   cases r with
   | own _ id _ _ cap hbn =>
    obtain ⟨_, h1, _, ab, h2, h3⟩ := st.at_ (hS _ _ e1) (fun q => by cases q)
    cases h3 with
    | arr _ _ _ azs q1 q2 q3 =>
     have := Nat.mul_le_mul_right e hle
     have hl : Live S id := ⟨q, _, e1, fun q => by cases q⟩
     have hrow : ∀ i, i < m → Rs h (nH F S) (rows' i) ((azs.drop (0 + i * e)).take e) := fun i hi => by
      rw [Nat.zero_add]; exact ih i hi _ (q3 i om)
     rcases Nat.eq_zero_or_pos m with hm | hm
     ·subst hm
      exact .wD _ _ _ (Or.inr (Or.inr ⟨id, 0, cap, azs, rfl, Or.inr hl, h2, Nat.zero_le _⟩))
     ·refine .tr _ _ _ id 0 cap azs ⟨hm, hbn⟩ (Or.inr hl) h2 om (fun i hi => ?_) hrow
      have w1 := (hrow i hi).len
      have w2 := Nat.mul_le_mul_right e (show i + 1 ≤ n by omega)
      rw [Nat.succ_mul] at w2
      rw [List.length_take, List.length_drop] at w1
      omega
   | rz => exact .wD _ _ _ (Or.inl rfl))
  (fun q id off vs vs' e1 fz ih a r => by
   cases r
   obtain ⟨_, h1, _, ab, h2, h3⟩ := st.at_ (hS _ _ e1) (fun q => by cases q)
   cases h3 with
   | cells _ azs q1 =>
    have q2 := ih _ q1
    have w := q2.len
    have q3 := R.fp (F := nH F S) vs' off id 0 azs (Or.inr ⟨q, _, e1, fun q => by cases q⟩) h2 om (by rw [List.drop_zero, ← w, List.take_length]; exact q2)
    rwa [Nat.zero_add] at q3)
  (fun q id f e1 a r => by
   cases r
   obtain ⟨_, h1, _, ab, h2, h3⟩ := st.at_ (hS _ _ e1) (fun q => by cases q)
   cases h3 with
   | jO _ l ck q1 q2 => exact .Mh f id l ck (Or.inr ⟨q, _, e1, fun q => by cases q⟩) h2 q1 fun k i v e => (q2 k i v e).mono fun id q => ⟨Or.inl q, rfl⟩)
  (fun e rows a r => by cases r; exact .wD _ _ _ (Or.inl rfl))
  (fun e n rows rows' _ ih a r => by
   cases r with
   | wD _ _ _ q =>
    refine .wD _ _ _ ?_
    rcases q with q | q | ⟨id, off, cap, vs, q1, q2, q3, q4⟩
    ·exact Or.inl q
    ·exact Or.inr (Or.inl q)
    ·exact Or.inr (Or.inr ⟨id, off, cap, vs, q1, Or.inl q2, q3, q4⟩)
   | tr _ _ _ id off cap vs g0 g1 g2 g3 g4 g5 =>
    refine .tr _ _ _ id off cap vs g0 (Or.inl g1) g2 g3 (fun i hi => ?_) fun i hi => ih i hi _ (g5 i hi)
    have w1 := (ih i hi _ (g5 i hi)).len
    have w2 := (g5 i hi).len
    rw [← w1, w2]; exact g4 i hi)
  (fun q e a r => by cases r; exact .rz _ _)
  (fun ps qs _ ih a r => by cases r with | agg _ azs q => exact .agg _ _ (ih _ q))
  (fun ps qs _ ih a r => by cases r with | bO _ azs q => exact .bO _ _ (ih _ q))
  (fun f ps qs _ ih a r => by cases r with | fn _ _ azs q => exact .fn _ _ _ (ih _ q))
  (fun q q' bp n e a r => by
   cases r with
   | own _ id _ _ cap h => exact .own _ _ _ _ _ h
   | rz => exact .rz _ _)
  (fun q q' id off a r => by cases r; exact .ptr _ _ _)
  (fun q q' id i off e a r => by cases r; exact .ib _ _ _ _ _)
  (fun q q' id a r => by cases r; exact .qD _ _)
  (fun azs r => by cases r; exact .nil)
  (fun p q ps qs _ _ i1 i2 azs r => by cases r with | cons _ a _ azs r1 r2 => exact .cons _ _ _ _ (i1 _ r1) (i2 _ r2)) z
theorem c5.lay {S S0 : aX} {c : C} {h : H} {F : Nat → Prop} (st : St c h F S0) (hS : ∀ q x, aI S q = some x → aI S0 q = some x) : ∀ {ps qs : List PV} {azs : List AV}, c5 S ps qs → Rs h F ps azs → Rs h (nH F S) qs azs
 | _, _, _, .nil, r => by cases r; exact .nil
 | _, _, _, .cons p q ps qs z zs, r => by cases r with | cons _ a _ azs r1 r2 => exact .cons _ _ _ _ (z.lay st hS a r1) (c5.lay st hS zs r2)
abbrev Cv := Zf []
abbrev C0 := c5 []
theorem BN {F : Nat → Prop} {id : Nat} (q : nH F [] id) : F id := by
 rcases q with q | q
 ·exact q
 ·exact (cj q).elim
theorem Zf.cv {c : C} {h : H} {F : Nat → Prop} {S : aX} (st : St c h F S) {p q : PV} (z : Cv p q) {a : AV} (r : R h F p a) : R h F q a := (z.lay st (fun q x e => by cases e) a r).mono fun id q => ⟨BN q, rfl⟩
theorem c5.cv {c : C} {h : H} {F : Nat → Prop} {S : aX} (st : St c h F S) {ps qs : List PV} (z : C0 ps qs) {azs : List AV} (r : Rs h F ps azs) : Rs h F qs azs := (z.lay st (fun q x e => by cases e) r).mono fun id q => ⟨BN q, rfl⟩
inductive wN : PB → PB → Prop
 | refl (b : PB) : wN b b
 | cells (ps qs : List PV) : C0 ps qs → wN (.cells ps) (.cells qs)
 | arr (e n m : Nat) (r1 r2 : Nat → List PV) : m ≤ n → (∀ i, i < m → C0 (r1 i) (r2 i)) → wN (.arr e n r1) (.arr e m r2)
 | jO (f g : List Nat → Option PV) : (∀ k, f k = g k) → wN (.jO f) (.jO g)
 | ix (f g : Int → Option PV) : (∀ k, f k = g k) → wN (.ix f) (.ix g)
 | jc (f g : Int × Int × Int → Option PV) : (∀ k, f k = g k) → wN (.jc f) (.jc g)
theorem wN.lay {c : C} {h : H} {F : Nat → Prop} {S : aX} (st : St c h F S) {b d : PB} (z : wN b d) {ab : AB} (r : RB h F b ab) : RB h F d ab := by
 cases z with
 | refl => exact r
 | cells ps qs z => cases r with | cells _ azs q => exact .cells _ _ (z.cv st q)
 | arr e n m r1 r2 hm z =>
  cases r with
  | arr _ _ _ azs q1 q2 q3 => exact .arr _ _ _ _ (Nat.le_trans (Nat.mul_le_mul_right e hm) q1) (fun i hi => by rw [(z i hi).len]; exact q2 i om) fun i hi => (z i hi).cv st (q3 i om)
 | jO f g z => have : f = g := funext z; subst this; exact r
 | ix f g z => have : f = g := funext z; subst this; exact r
 | jc f g z => have : f = g := funext z; subst this; exact r
theorem wN.dead {b d : PB} (z : wN b d) (h : d ≠ .dead) : b ≠ .dead := by
 cases z <;> first | exact h | (intro q; cases q)
inductive jy (G : aZ) : aZ → Prop
 | nil : jy G []
 | cons {t : Nat} {p q : PV} {G' : aZ} : fJ G t = some p → Cv p q → jy G G' → jy G ((t, q) :: G')
inductive kz (S : aX) : aX → Prop
 | nil : kz S []
 | cons {q : Nat} {bp : Option Nat} {b d : PB} {S' : aX} : aI S q = some (bp, b) → wN b d → kz S S' → kz S ((q, bp, d) :: S')
 | vO {q : Nat} {d : PB} {S' : aX} : kz S S' → kz S ((q, none, d) :: S')
theorem jy.get {G G' : aZ} (s : jy G G') : ∀ {t : Nat} {q : PV}, fJ G' t = some q → ∃ p, fJ G t = some p ∧ Cv p q := by
 induction s with
 | nil => intro t q e; cases e
 | @cons k p u G' h1 h2 _ ih =>
  intro t q e
  simp only [fJ] at e
  cases hb : Nat.beq k t with
  | true => rw [hb] at e; cases e; rw [← Nat.eq_of_beq_eq_true hb]; exact ⟨p, h1, h2⟩
  | false => rw [hb] at e; exact ih e
theorem kz.get {S S' : aX} (s : kz S S') : ∀ {p id : Nat} {d : PB}, aI S' p = some (some id, d) → ∃ b, aI S p = some (some id, b) ∧ wN b d := by
 induction s with
 | nil => intro p id d e; cases e
 | @cons k bp b u S' h1 h2 _ ih =>
  intro p id d e
  rw [aw] at e
  by_cases hb : k = p
  ·rw [if_pos hb] at e; cases e; rw [← hb]; exact ⟨b, h1, h2⟩
  ·rw [if_neg hb] at e; exact ih e
 | @vO k u S' _ ih =>
  intro p id d e
  rw [aw] at e
  by_cases hb : k = p
  ·rw [if_pos hb] at e; cases e
  ·rw [if_neg hb] at e; exact ih e
theorem kz.lay {c : C} {h : H} {F : Nat → Prop} {S S' : aX} (z : kz S S') (s : St c h F S) : St c h F S' ∧ Ext h F S h F S' := by
 refine ⟨⟨s.cx, s.gl, s.fr, fun p id d e hd => ?_, fun p q id b d e1 e2 hb hd => ?_⟩, Nat.le_refl _, fun _ q => q, fun _ _ _ => rfl, fun _ q => Or.inl q, fun id ⟨p, d, e, hd⟩ => ?_⟩
 ·obtain ⟨b, e1, cv⟩ := z.get e
  obtain ⟨g1, g2, g3, g4, ab, g5, g6⟩ := s.own p id b e1 (cv.dead hd)
  exact ⟨g1, g2, g3, g4, ab, g5, cv.lay s g6⟩
 ·obtain ⟨b1, f1, c1⟩ := z.get e1
  obtain ⟨b2, f2, c2⟩ := z.get e2
  exact s.inj p q id b1 b2 f1 f2 (c1.dead hb) (c2.dead hd)
 ·obtain ⟨b, e1, cv⟩ := z.get e
  exact Or.inr ⟨p, b, e1, cv.dead hd⟩
theorem jy.lay {c : C} {h : H} {F : Nat → Prop} {S : aX} (s : St c h F S) {G G' : aZ} {env : bu} (z : jy G G') (r : RE h F G env) : RE h F G' env := ⟨fun t q e => by
 obtain ⟨p, e1, cv⟩ := z.get e
 obtain ⟨a, e2, r1⟩ := r.at_ t p e1
 exact ⟨a, e2, cv.cv s r1⟩, r.gl⟩
/-! flat values -/
mutual
def PV.flat : PV → Bool
 | .bool _ | .int _ _ | .str _ | .gA | .aO | .eU | .jN => true
 | .fn _ cs => PV.xw cs
 | .agg vs => PV.xw vs
 | .bO vs => PV.xw vs
 | _ => false
def PV.xw : List PV → Bool
 | [] => true
 | p :: ps => p.flat && PV.xw ps
end
theorem R.flat {h h' : H} {F F' : Nat → Prop} {p : PV} {a : AV} (r : R h F p a) : p.flat = true → R h' F' p a :=
 R.rec (motive_1 := fun p a _ => p.flat = true → R h' F' p a) (motive_2 := fun ps azs _ => PV.xw ps = true → Rs h' F' ps azs)
  (fun b _ => .bool b) (fun k n _ => .int k n) (fun s _ => .str s) (fun _ => .gA) (fun _ => .aO) (fun _ => .eU) (fun _ => .jN)
  (fun _ _ _ q => by simp [PV.flat] at q) (fun _ _ _ _ _ q => by simp [PV.flat] at q) (fun _ _ _ _ _ _ q => by simp [PV.flat] at q) (fun _ _ q => by simp [PV.flat] at q) (fun _ _ _ q => by simp [PV.flat] at q) (fun _ _ q => by simp [PV.flat] at q)
  (fun _ _ _ _ _ _ _ _ _ _ q => by simp [PV.flat] at q) (fun _ _ _ _ q => by simp [PV.flat] at q) (fun _ _ _ _ _ _ _ _ _ _ _ _ _ _ q => by simp [PV.flat] at q) (fun _ _ _ _ _ _ _ _ _ q => by simp [PV.flat] at q)
  (fun f ps azs _ ih q => .fn f ps azs (ih (by simpa [PV.flat] using q))) (fun ps azs _ ih q => .agg ps azs (ih (by simpa [PV.flat] using q))) (fun ps azs _ ih q => .bO ps azs (ih (by simpa [PV.flat] using q)))
  (fun _ => .nil) (fun p a ps azs _ _ i1 i2 q => by
   simp only [PV.xw, Bool.and_eq_true] at q
   exact .cons _ _ _ _ (i1 q.1) (i2 q.2)) r
section
variable {P : Program} {X : dg} {M : Mf} {d : Nat} {G : aZ} {S : aX} {K : PV → aX → Prop} {op : SO}
/-! calls -/
theorem St.frame {c : C} {h h' : H} {F F' : Nat → Prop} {S S' : aX} (s : St c h F S) (x : Ext h F [] h' F' S') (hc : Cx c h') (hf : ∀ id, F' id → id < h'.n ∧ seen c.cM id = true) : St c h' F' S ∧ Ext h F S h' F' S := by
 refine ⟨⟨hc, s.gl.mono fun i q => ⟨x.sub i q, x.same i (s.fr i q).1 cj⟩, hf, fun p id b e hb => ?_, s.inj⟩, x.le, x.sub, fun id bV _ => x.same id bV cj, fun id q => ?_, fun id q => Or.inr q⟩
 ·obtain ⟨g1, g2, g3, g4, ab, g5, g6⟩ := s.own p id b e hb
  refine ⟨Nat.lt_of_lt_of_le g1 x.le, g2, g3, fun q => ?_, ab, (x.same id g1 cj).trans g5, g6.mono fun i q => ⟨x.sub i q, x.same i (s.fr i q).1 cj⟩⟩
  rcases x.tf id q with y | y | y
  ·exact g4 y
  ·omega
  ·exact cj y
 ·rcases x.tf id q with y | y | y
  ·exact Or.inl y
  ·exact Or.inr (Or.inl y)
  ·exact (cj y).elim
theorem ao {f : Nat} {args : List PV} (w : PF P X M f args fun r => K r S) : lP P X M f args S K := fun c h F azs s r =>
 (w c h F azs (St.nil s.cx s.gl s.fr) r).mono fun v h' ⟨p, S', F', a1, a2, a3, a4⟩ => by
  obtain ⟨s1, x1⟩ := s.frame a1 a2.cx a2.fr
  exact ⟨p, S, F', x1, s1, a3, a4⟩
theorem ij {f : Nat} {args args' : List PV} (hz : c5 S args args') (w : PF P X M f args' fun r => r.flat = true ∧ K r S) : lP P X M f args S K := fun c h F azs s r => by
 have hr := hz.lay s (fun _ _ e => e) r
 have s1 : St c h (nH F S) [] := St.nil s.cx (s.gl.mono fun id q => ⟨Or.inl q, rfl⟩) fun id q => by
  rcases q with q | ⟨p, b, e, hb⟩
  ·exact s.fr id q
  ·obtain ⟨g1, _, g3, _⟩ := s.own p id b e hb
   exact ⟨g1, g3⟩
 refine (w c h _ azs s1 hr).mono fun v h' ⟨p, S', F', a1, a2, a3, a4⟩ => ?_
 have x : Ext h F [] h' F [] := ⟨a1.le, fun _ q => q, fun id bV _ => a1.same id bV cj, fun _ q => Or.inl q, fun _ q => (cj q).elim⟩
 obtain ⟨s2, x2⟩ := s.frame x a2.cx (fun id q => ⟨Nat.lt_of_lt_of_le (s.fr id q).1 a1.le, (s.fr id q).2⟩)
 exact ⟨p, S, F, x2, s2, a3.flat a4.1, a4.2⟩
theorem aq {f : XV} {args : List XV} {g : Nat} {caps vs ws : List PV} (hk : lP P X M g ws S K) (hf : ca G f = some (.fn g caps) := by exact rfl) (ha : zg G args = some vs := by exact rfl) (hw : vs ++ caps = ws := by exact rfl) : PO P X M d (.call f args) G S K := ⟨fun c h F env s r => by
 obtain ⟨a, e1, q1⟩ := r.ev hf
 obtain ⟨azs, e2, q2⟩ := r.Lt ha
 cases q1 with
 | fn _ _ cs q1 =>
  subst hw
  exact zn e1 e2 (hk c h F _ s (q2.app q1))⟩
end
end Go.Proofs.YtgaihilgffficaaGreatDoor.Ev
