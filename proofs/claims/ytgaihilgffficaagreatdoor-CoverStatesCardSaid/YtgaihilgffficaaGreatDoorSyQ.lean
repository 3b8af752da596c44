/- CoverStates, part 16 -/
import Derived.Test.YtgaihilgffficaaGreatDoorSyG
import Derived.ProofKit
import Derived.OpenShut
import Derived.Deep.Slices
set_option linter.all false
namespace Go.Proofs.YtgaihilgffficaaGreatDoor.Ev
section
open Go Go.RowKit Go.Deep
/-! the shape of a type -/
def Jx (g : TypeId → Option (Sh × Nat)) : List Field → Nat → Option (List Sh)
 | [], _ => some []
 | f :: fs, off => if f.offset = off then match g f.type with
     | some (s, _) => match Jx g fs (off + s.sz) with
      | some l => some (s :: l)
      | none => none
     | none => none
  else none
def C7 (P : Program) : Nat → TypeId → Option (Sh × Nat)
 | 0, _ => none
 | n + 1, t =>
  let ok (s : Sh) : Option (Sh × Nat) := if P.cellsOf t = s.sz then some (s, s.sz) else none
  match P.underlying t with
  | some (.int k) => ok (.int k)
  | some .string => ok .str
  | some .bool => ok .bool
  | some (.struct fs) => match Jx (C7 P n) fs.toList 0 with
   | some l => if l.length ≤ 1000 then ok (.row l) else none
   | none => none
  | some (.slice e) => match C7 P n e with
   | some (s, _) => if 0 < s.sz ∧ 8 ≤ P.bytesOf e then ok (.arr s) else none
   | none => none
  | _ => none
inductive zE (n : Nat) : Dt → Prop
 | int (z : Int) : zE n (.int z)
 | str (s : List Nat) : zE n (.str s)
 | bool (b : Bool) : zE n (.bool b)
 | jf (k : Nat) : zE n (.jf k)
 | row (l : List Dt) : l.length ≤ n → (∀ x ∈ l, zE n x) → zE n (.row l)
 | arr (l : List Dt) : l.length ≤ n → (∀ x ∈ l, zE n x) → zE n (.arr l)
theorem jr {H' : Type} {P : Program} {e : TypeId} {x : Nat} : ∀ {l : List (DataW H')} {d : DataW H'}, d ∈ l → x ∈ DataW.weights P e d → x ∈ DataW.weightsAll P e l
 | [], d, h, _ => by cases h
 | y :: l, d, h, hx => by
  rw [DataW.weightsAll, List.mem_append]
  rcases List.mem_cons.1 h with rfl | h
  ·exact Or.inl hx
  ·exact Or.inr (jr h hx)
theorem dR {H' : Type} {P : Program} {x : Nat} : ∀ {ts : List TypeId} {l : List (DataW H')} {i : Nat} {t : TypeId} {d : DataW H'}, ts[i]? = some t → l[i]? = some d → x ∈ DataW.weights P t d → x ∈ DataW.weightsEach P ts l
 | [], l, i, t, d, h, _, _ => by simp at h
 | _ :: _, [], i, t, d, _, h, _ => by simp at h
 | a :: ts, b :: l, 0, t, d, h1, h2, hx => by
  simp at h1 h2
  subst h1 h2
  rw [DataW.weightsEach, List.mem_append]
  exact Or.inl hx
 | a :: ts, b :: l, i + 1, t, d, h1, h2, hx => by
  rw [DataW.weightsEach, List.mem_append]
  exact Or.inr (dR (by simpa using h1) (by simpa using h2) hx)
structure En where
 id : Nat
 loc : Loc
 vs : List AV
structure eK (w : World) (k k' : Nat) (cs : List Value) (avs : List AV) (L : List En) (R : H → Prop) : Prop where
 le : k ≤ k'
 ids : ∀ e ∈ L, k ≤ e.id ∧ e.id < k'
 nodup : L.Pairwise fun a b => a.id ≠ b.id
 rp : ∀ h : H, k' ≤ h.n → (∀ e ∈ L, h.get e.id = some (.cells e.vs)) → R h
 vr : ∀ β : cn, (∀ e ∈ L, β e.id = some e.loc) → bE β avs cs ∧ ∀ e ∈ L, e.loc.cm < w.heap.size ∧ BR β e.loc w (.cells e.vs)
theorem eK.nil {w : World} {k : Nat} {cs : List Value} {avs : List AV} {R : H → Prop} (hr : ∀ h, R h) (hv : ∀ β, bE β avs cs) : eK w k k cs avs [] R :=
 ⟨Nat.le_refl _, (fun e he => absurd he (by simp)), List.Pairwise.nil, (fun h _ _ => hr h), fun β _ => ⟨hv β, fun e he => absurd he (by simp)⟩⟩
theorem eK.append {w : World} {k k1 k2 : Nat} {cs1 cs2 : List Value} {a1 a2 : List AV} {L1 L2 : List En} {R1 R2 R : H → Prop} (r1 : eK w k k1 cs1 a1 L1 R1) (r2 : eK w k1 k2 cs2 a2 L2 R2) (hR : ∀ h, R1 h → R2 h → R h) : eK w k k2 (cs1 ++ cs2) (a1 ++ a2) (L1 ++ L2) R := by
 have h1 := r1.le
 have h2 := r2.le
 refine ⟨om, fun e he => ?_, ?_, fun h hn hg => ?_, fun β hβ => ?_⟩
 ·rcases List.mem_append.1 he with q | q
  ·have := r1.ids e q; omega
  ·have := r2.ids e q; omega
 ·rw [List.pairwise_append]
  refine ⟨r1.nodup, r2.nodup, fun a ha b hb q => ?_⟩
  have := r1.ids a ha
  have := r2.ids b hb
  omega
 ·exact hR h (r1.rp h om fun e he => hg e (List.mem_append_left _ he)) (r2.rp h hn fun e he => hg e (List.mem_append_right _ he))
 ·obtain ⟨v1, b1⟩ := r1.vr β fun e he => hβ e (List.mem_append_left _ he)
  obtain ⟨v2, b2⟩ := r2.vr β fun e he => hβ e (List.mem_append_right _ he)
  refine ⟨v1.append v2, fun e he => ?_⟩
  rcases List.mem_append.1 he with q | q
  ·exact b1 e q
  ·exact b2 e q
section
variable {B M : Nat} {H' : Type} {enc : TypeId × Value → H'} {P : Program} {w : World} {held : Bool}
abbrev Reads (B M : Nat) (P : Program) (w : World) (enc : TypeId × Value → H') (held : Bool) (t : TypeId) (sh : Sh) : Prop :=
 ∀ (n : Nat) (cs : List Value) (y : DataW H' × List MemPlace), DataW.trod enc P w 0 (fun _ => true) held n t cs = some y → w.noneFrozen y.2 → (∀ x ∈ DataW.weights P t y.1, x ≤ M) → ∀ k, ∃ d avs k' L, (avs.length = sh.sz ∧ k' ≤ k + sh.EK B) ∧ zE (M / 8) d ∧ eK w k k' cs avs L (fun h => Rp B false h sh d avs)
theorem nU {p q : List MemPlace} (h : w.noneFrozen q) (hs : ∀ x ∈ p, x ∈ q) : w.noneFrozen p := fun b off hm => h b off (hs _ hm)
theorem EL {g : TypeId → Option (Sh × Nat)} (hg : ∀ t s m, g t = some (s, m) → P.cellsOf t = s.sz ∧ Reads B M P w enc held t s) : ∀ (fs : List Field) (off : Nat) (shs : List Sh) (cs : List Value), Jx g fs off = some shs → off + O2 shs = cs.length →
    (∀ f ∈ fs, ∃ (n : Nat) (y : DataW H' × List MemPlace), DataW.trod enc P w 0 (fun _ => true) held n f.type ((cs.drop f.offset).take (P.cellsOf f.type)) = some y ∧ w.noneFrozen y.2 ∧ ∀ x ∈ DataW.weights P f.type y.1, x ≤ M) → ∀ k, ∃ ds avs k' L, (k' ≤ k + Jy B shs ∧ ds.length = shs.length) ∧ (∀ x ∈ ds, zE (M / 8) x) ∧ eK w k k' (cs.drop off) avs L (fun h => kE B false h shs ds avs)
 | [], off, shs, cs, e, hl, _, k => by
  simp only [Jx, Option.some.injEq] at e
  subst e
  refine ⟨[], [], k, [], ⟨by simp [Jy], rfl⟩, (fun x hx => absurd hx (by simp)), eK.nil (fun h => by simp [kE]) fun β => ?_⟩
  rw [List.drop_eq_nil_of_le (by simp [O2] at hl; omega)]
  simp [bE]
 | f :: fs, off, shs, cs, e, hl, hf, k => by
  unfold Jx at e
  split at e
  ·rename_i ho
   split at e
   ·rename_i s m hs
    split at e
    ·rename_i l hl'
     cases e
     obtain ⟨h1, h2⟩ := hg _ _ _ hs
     obtain ⟨n, y, h3, h4, h5⟩ := hf f (by simp)
     obtain ⟨d, a1, k1, L1, ⟨_, hk1⟩, hb1, r1⟩ := h2 n _ y h3 h4 h5 k
     simp only [O2] at hl
     obtain ⟨ds, a2, k2, L2, ⟨hk2, hds⟩, hb2, r2⟩ := EL hg fs (off + s.sz) l cs hl' om (fun f' hf' => hf f' (by simp [hf'])) k1
     have e1 : cs.drop off = (cs.drop f.offset).take (P.cellsOf f.type) ++ cs.drop (off + s.sz) := by
      rw [ho, h1, ← List.drop_drop, List.take_append_drop]
     rw [e1]
     exact ⟨d :: ds, a1 ++ a2, k2, L1 ++ L2, ⟨by simp only [Jy]; omega, by simp [hds]⟩, (fun x hx => by
      rcases List.mem_cons.1 hx with rfl | hx
      ·exact hb1
      ·exact hb2 x hx), r1.append r2 fun h q1 q2 => by
      simp only [kE]
      exact ⟨d, ds, a1, a2, rfl, rfl, q1, q2⟩⟩
    ·cases e
   ·cases e
  ·cases e
theorem vH {e : TypeId} {s : Sh} (hs : Reads B M P w enc held e s) : ∀ (m : Nat) (C : Nat → List Value), (∀ i, i < m → ∃ (n : Nat) (y : DataW H' × List MemPlace), DataW.trod enc P w 0 (fun _ => true) held n e (C i) = some y ∧ w.noneFrozen y.2 ∧ ∀ x ∈ DataW.weights P e y.1, x ≤ M) → ∀ k,
    ∃ (ds : List Dt) (rows : List (List AV)) (k' : Nat) (L : List En), ds.length = m ∧ (∀ x ∈ ds, zE (M / 8) x) ∧ rows.length = m ∧ k' ≤ k + m * s.EK B ∧ k ≤ k' ∧ (∀ e ∈ L, k ≤ e.id ∧ e.id < k') ∧ (L.Pairwise fun a b => a.id ≠ b.id) ∧
     (∀ h : H, k' ≤ h.n → (∀ e ∈ L, h.get e.id = some (.cells e.vs)) → ∀ (i : Nat) (x : Dt) (row : List AV), ds[i]? = some x → rows[i]? = some row → Rp B false h s x row) ∧
     (∀ β : cn, (∀ e ∈ L, β e.id = some e.loc) → (∀ (i : Nat) (row : List AV), rows[i]? = some row → bE β row (C i)) ∧ ∀ e ∈ L, e.loc.cm < w.heap.size ∧ BR β e.loc w (.cells e.vs)) ∧ ∀ row ∈ rows, row.length = s.sz
 | 0, C, _, k => ⟨[], [], k, [], rfl, (fun x hx => absurd hx (by simp)), rfl, om, Nat.le_refl _, (fun e he => absurd he (by simp)), List.Pairwise.nil, (fun h _ _ i x row h1 => absurd h1 (by simp)), (fun β _ => ⟨fun i row h1 => absurd h1 (by simp), fun e he => absurd he (by simp)⟩), fun row hr => absurd hr (by simp)⟩
 | m + 1, C, hC, k => by
  obtain ⟨ds, rows, k1, L1, e1, hb1, e2, hk1, h1, h2, h3, h4, h5, h6⟩ := vH hs m C (fun i hi => hC i om) k
  obtain ⟨n, y, h7, h8, h9⟩ := hC m om
  obtain ⟨d, a, k2, L2, ⟨hlen, hk2⟩, hb2, r⟩ := hs n _ y h7 h8 h9 k1
  have hrle := r.le
  refine ⟨ds ++ [d], rows ++ [a], k2, L1 ++ L2, by simp [e1], (fun x hx => by
   rcases List.mem_append.1 hx with q | q
   ·exact hb1 x q
   ·rw [List.mem_singleton.1 q]; exact hb2), by simp [e2], by rw [Nat.succ_mul]; omega, om, fun e he => ?_, ?_, fun h hn hg i x row q1 q2 => ?_, fun β hβ => ⟨fun i row q => ?_, fun e he => ?_⟩, fun row hr => ?_⟩
  ·rcases List.mem_append.1 he with q | q
   ·have := h2 e q; omega
   ·have := r.ids e q; omega
  ·rw [List.pairwise_append]
   refine ⟨h3, r.nodup, fun a ha b hb q => ?_⟩
   have := h2 a ha
   have := r.ids b hb
   omega
  ·by_cases hi : i < m
   ·rw [List.getElem?_append_left (by omega)] at q1 q2
    exact h4 h om (fun e he => hg e (List.mem_append_left _ he)) i x row q1 q2
   ·have him : i = m := by
      have := (List.getElem?_eq_some_iff.1 q1).1
      simp at this; omega
    subst him
    rw [List.getElem?_append_right (by omega), e1] at q1
    rw [List.getElem?_append_right (by omega), e2] at q2
    simp at q1 q2
    subst q1 q2
    exact r.rp h hn fun e he => hg e (List.mem_append_right _ he)
  ·by_cases hi : i < m
   ·rw [List.getElem?_append_left (by omega)] at q
    exact (h5 β fun e he => hβ e (List.mem_append_left _ he)).1 i row q
   ·have him : i = m := by
      have := (List.getElem?_eq_some_iff.1 q).1
      simp at this; omega
    subst him
    rw [List.getElem?_append_right (by omega), e2] at q
    simp at q
    subst q
    exact (r.vr β fun e he => hβ e (List.mem_append_right _ he)).1
  ·rcases List.mem_append.1 he with q | q
   ·exact (h5 β fun e he => hβ e (List.mem_append_left _ he)).2 e q
   ·exact (r.vr β fun e he => hβ e (List.mem_append_right _ he)).2 e q
  ·rcases List.mem_append.1 hr with q | q
   ·exact h6 row q
   ·simp at q; subst q; exact hlen
theorem DK {t e : TypeId} {s : Sh} (ht : P.underlying t = some (.slice e)) (hp : 0 < s.sz) (h8 : 8 ≤ P.bytesOf e) (hce : P.cellsOf e = s.sz) (hs : Reads B M P w enc held e s) : Reads B M P w enc held t (.arr s) := by
 intro n cs y h hfz hM k
 rcases open_slice ht h with ⟨rfl, rfl⟩ | ⟨a, len, cap, m, n', D, Q, rfl, hb, hl, hm, hmm, rfl, hi⟩
 ·refine ⟨.arr [], [.raw none 0 0], k, [], ⟨rfl, om⟩, .arr _ (Nat.zero_le _) (fun x hx => absurd hx (by simp)), eK.nil (fun h => vC.2 (Or.inl ⟨[], _, rfl, rfl, Or.inl (Nat.zero_le _), ⟨Nat.zero_le _, ⟨0, [], rfl, ⟨Or.inl ⟨rfl, Or.inr ⟨none, 0, rfl⟩⟩⟩, rfl, fun i x row h1 => absurd h1 (by simp)⟩⟩⟩)) fun β => ?_⟩
  simp [bE, VR]
 ·rw [if_pos rfl] at hmm
  subst hmm
  by_cases hz : len = 0
  ·subst hz
   refine ⟨.arr [], [.raw (some a) 0 m], k, [], ⟨rfl, om⟩, .arr _ (Nat.zero_le _) (fun x hx => absurd hx (by simp)), eK.nil (fun h => vC.2 (Or.inl ⟨[], _, rfl, rfl, Or.inl (Nat.zero_le _), ⟨Nat.zero_le _, ⟨0, [], rfl, ⟨Or.inl ⟨rfl, Or.inr ⟨some a, m, rfl⟩⟩⟩, rfl, fun i x row h1 => absurd h1 (by simp)⟩⟩⟩)) fun β => ?_⟩
   simp [bE, VR]
  ·have hmx : maxLen = 9223372036854775807 := by decide
   by_cases hbig : B < len ∧ s.EK B ≠ 0
   ·refine ⟨.jf len, [.raw (some a) len m], k, [], ⟨rfl, om⟩, .jf _, eK.nil (fun h => vC.2 (Or.inr ⟨rfl, len, some a, m, rfl, rfl, hbig.1, hbig.2, om⟩)) fun β => ?_⟩
    simp [bE, VR]
   rw [hce] at hfz
   simp only [DataW.weights, ht] at hM
   have hlen8 : len ≤ M / 8 := by
    have := hM _ (List.mem_cons_self ..)
    simp only [List.length_map, List.length_range] at this
    have h2 : (len + (m - len)) * 8 ≤ (len + (m - len)) * P.bytesOf e := Nat.mul_le_mul_left _ h8
    omega
   have hMi : ∀ i, i < m → ∀ x ∈ DataW.weights P e (D i), x ≤ M := fun i hi x hx => by
    refine hM x (List.mem_cons_of_mem _ (List.mem_append.2 ?_))
    rcases Nat.lt_or_ge i len with q | q
    ·exact Or.inl (jr (List.mem_map.2 ⟨i, by simpa using q, rfl⟩) hx)
    ·exact Or.inr (jr (List.mem_map.2 ⟨i - len, by simp; omega, by rw [Nat.add_sub_cancel' q]⟩) hx)
   have hfr : ∀ i, i < m → w.noneFrozen (Q i) := fun i hil => nU hfz fun x hx => by
    rw [List.mem_append]; right
    rw [List.mem_flatMap]
    exact ⟨i, by simpa using hil, hx⟩
   have hC : ∃ C : Nat → List Value, ∀ i, i < m → w.cells? 0 (a.add (i * s.sz)) s.sz = some (C i) ∧ ∃ n, DataW.trod enc P w 0 (fun _ => true) held n e (C i) = some (D i, Q i) := by
    refine ⟨fun i => (w.cells? 0 (a.add (i * s.sz)) s.sz).getD [], fun i hil => ?_⟩
    obtain ⟨cs', h1, h2⟩ := hi i hil
    rw [hce] at h1
    have e : (w.cells? 0 (a.add (i * s.sz)) s.sz).getD [] = cs' := by rw [h1]; rfl
    refine ⟨?_, n', ?_⟩
    ·show _ = some ((w.cells? 0 (a.add (i * s.sz)) s.sz).getD [])
     rw [e]; exact h1
    ·show DataW.trod enc P w 0 (fun _ => true) held n' _ ((w.cells? 0 (a.add (i * s.sz)) s.sz).getD []) = _
     rw [e]; exact h2
   obtain ⟨C, hC⟩ := hC
   obtain ⟨ds, rows, k1, L, e1, hbd, e2, hk1, h1, h2, h3, h4, h5, h6⟩ := vH hs len C (fun i hil => by
    obtain ⟨_, n, q⟩ := hC i om
    exact ⟨n, _, q, hfr i om, hMi i om⟩) (k + 1)
   have hc : ∀ i, i < m → (C i).length = s.sz ∧ ∀ j, j < s.sz → w.cell? (a.add (i * s.sz + j)) = (C i)[j]? := fun i hil => by
    obtain ⟨_, h3, h4⟩ := World.cells?_some (hC i hil).1
    refine ⟨h3, fun j hj => ?_⟩
    rw [← add_add]; exact h4 j hj
   obtain ⟨b, off, spot⟩ := a
   have hsome : ∀ i, i < m → ∀ j, j < s.sz → ∃ u, w.cell? ((⟨b, off, spot⟩ : Addr).add (i * s.sz + j)) = some u := fun i hil j hj => by
    obtain ⟨h3, h4⟩ := hc i hil
    exact ⟨(C i)[j]'om, by rw [h4 j hj]; simp [h3, hj]⟩
   have hsp : spot = none := by
    obtain ⟨u, hu⟩ := hsome 0 om 0 hp
    simpa [Addr.add] using World.cell?_spot hu
   subst hsp
   have ha : ∀ j, (⟨b, off, none⟩ : Addr).add j = ⟨b, off + j, none⟩ := fun j => by unfold Addr.add; split <;> simp_all
   obtain ⟨u0, hu0⟩ := hsome 0 om 0 hp
   rw [ha] at hu0
   unfold World.cell? at hu0
   split at hu0
   ·rename_i cur t' fz hblk
    have hget : ∀ k, w.cell? ⟨b, off + k, none⟩ = cur[off + k]? := fun k => by
     unfold World.cell?; rw [hblk]; simp
    have hsize : off + m * s.sz ≤ cur.size := by
     obtain ⟨u, hu⟩ := hsome (m - 1) om (s.sz - 1) om
     rw [ha, hget] at hu
     have := (Array.getElem?_eq_some_iff.1 hu).1
     have e1 : (m - 1) * s.sz + (s.sz - 1) + 1 = m * s.sz := by
      have : m = (m - 1) + 1 := by omega
      rw [this, Nat.succ_mul]; simp; omega
     omega
    have hnf : ∀ i, off ≤ i → i < off + m * s.sz → (decide (fz.1 ≤ i) && decide (i < fz.2)) = false := fun i q1 q2 => by
     have := hfz b i (by
      rw [List.mem_append]; left
      exact MemPlace.mem_row.2 ⟨i - off, om, by simp; omega⟩)
     unfold World.frozen? at this
     simp only [hblk] at this
     exact this
    have hblt : b < w.heap.size := by
     rcases Nat.lt_or_ge b w.heap.size with q | q
     ·exact q
     ·rw [Array.getElem?_eq_none q] at hblk; cases hblk
    have hmul : len * s.sz ≤ m * s.sz := Nat.mul_le_mul_right _ hl
    have hfl : rows.flatten.length = len * s.sz := by rw [jK h6, e2]
    refine ⟨.arr ds, [.sl k 0 rows.length s.sz none], k1, ⟨k, ⟨b, off, off + m * s.sz, dv⟩, rows.flatten⟩ :: L, ⟨rfl, ?_⟩, .arr _ om hbd, ⟨om, fun e he => ?_, ?_, fun h hn hg => ?_, fun β hβ => ⟨?_, fun e he => ?_⟩⟩⟩
    ·simp only [Sh.EK]
     have : len * s.EK B ≤ B * s.EK B := by
      rcases Nat.eq_zero_or_pos (s.EK B) with q | q
      ·rw [q]; simp
      ·exact Nat.mul_le_mul_right _ om
     omega
    ·rcases List.mem_cons.1 he with rfl | he
     ·exact ⟨Nat.le_refl _, by show k < k1; omega⟩
     ·have := h2 e he; omega
    ·rw [List.pairwise_cons]
     exact ⟨fun e he q => by have := h2 e he; have q' : k = e.id := q; omega, h3⟩
    ·refine vC.2 (Or.inl ⟨ds, _, rfl, rfl, om, ⟨om, ⟨k, rows, rfl, zF.mk' om om (hg _ (List.mem_cons_self ..)) rfl h6, om, fun i x row q1 q2 => h4 h hn (fun e he => hg e (by simp [he])) i x row q1 q2⟩⟩⟩)
    ·simp only [bE, VR]
     exact ⟨_, _, rfl, ⟨⟨b, off, off + m * s.sz, dv⟩, off, m, hβ _ (List.mem_cons_self ..), by rw [e2], om, Nat.le_refl _, Or.inl (Nat.add_zero off).symm, fun c q => by cases q⟩, rfl⟩
    ·rcases List.mem_cons.1 he with rfl | he
     ·refine ⟨hblt, cur, (t', fz), hblk, ⟨hsize, by show off + rows.flatten.length ≤ off + m * s.sz; omega, fun i q1 q2 => hnf i q1 q2⟩, fun i v hi => ?_⟩
      have hv := (h5 β fun e he => hβ e (by simp [he])).1
      have hil : i < len * s.sz := by
       have := (List.getElem?_eq_some_iff.1 hi).1
       rw [hfl] at this; exact this
      have hq : i / s.sz < len := by rw [Nat.div_lt_iff_lt_mul hp]; exact hil
      have hrow : rows[i / s.sz]? = some (rows[i / s.sz]'om) := List.getElem?_eq_getElem om
      have hfg := jJ h6 (i / s.sz) _ hrow
      have hmod : i % s.sz < s.sz := Nat.mod_lt _ hp
      have hdm : i / s.sz * s.sz + i % s.sz = i := by rw [Nat.mul_comm]; exact Nat.div_add_mod i s.sz
      have hvi : (rows[i / s.sz]'om)[i % s.sz]? = some v := by
       rw [← hfg, List.getElem?_take_of_lt hmod, List.getElem?_drop, hdm]; exact hi
      obtain ⟨u, u1, u2⟩ := (hv _ _ hrow).get hvi
      refine ⟨u, ?_, u2⟩
      have := (hc (i / s.sz) om).2 (i % s.sz) hmod
      rw [ha, hget, hdm, u1] at this
      exact this
     ·exact (h5 β fun e he => hβ e (by simp [he])).2 e he
   ·cases hu0
theorem mg (hM8 : 1000 ≤ M / 8) : ∀ (m : Nat) (t : TypeId) (s : Sh) (q : Nat), C7 P m t = some (s, q) → P.cellsOf t = s.sz ∧ Reads B M P w enc held t s
 | 0, t, s, q, e => by cases e
 | m + 1, t, s, q, e => by
  have ok_some : ∀ s0 : Sh, (if P.cellsOf t = s0.sz then some (s0, s0.sz) else none) = some (s, q) → s0 = s ∧ P.cellsOf t = s.sz := fun s0 h => by
   split at h
   ·rename_i hc; cases h; exact ⟨rfl, hc⟩
   ·cases h
  unfold C7 at e
  simp only at e
  split at e
  ·rename_i k ht
   obtain ⟨rfl, hc⟩ := ok_some _ e
   refine ⟨hc, fun n cs y h hfz hM k0 => ?_⟩
   obtain ⟨z, rfl, rfl, _⟩ := DataW.trod_int ht h
   exact ⟨.int z, [.int k z], k0, [], ⟨rfl, om⟩, .int _, eK.nil (fun h => by simp [Rp]) fun β => by simp [bE, VR]⟩
  ·rename_i ht
   obtain ⟨rfl, hc⟩ := ok_some _ e
   refine ⟨hc, fun n cs y h hfz hM k0 => ?_⟩
   obtain ⟨z, rfl, rfl, _⟩ := DataW.trod_string ht h
   exact ⟨.str (z.data.toList.map UInt8.toNat), [.str (z.data.toList.map UInt8.toNat)], k0, [], ⟨rfl, om⟩, .str _, eK.nil (fun h => by simp [Rp]) fun β => by simp [bE, VR]⟩
  ·rename_i ht
   obtain ⟨rfl, hc⟩ := ok_some _ e
   refine ⟨hc, fun n cs y h hfz hM k0 => ?_⟩
   obtain ⟨z, rfl, rfl⟩ := DataW.trod_bool ht h
   exact ⟨.bool z, [.bool z], k0, [], ⟨rfl, om⟩, .bool _, eK.nil (fun h => by simp [Rp]) fun β => by simp [bE, VR]⟩
  ·rename_i fs ht
   split at e
   ·rename_i l hl
    split at e
    ·rename_i hl1000
     obtain ⟨rfl, hc⟩ := ok_some _ e
     refine ⟨hc, fun n cs y h hfz hM k0 => ?_⟩
     obtain ⟨xs, n', _, rfl, hcl, hxl, hf⟩ := DataW.trod_struct ht h
     simp only [DataW.weights, ht] at hM
     obtain ⟨ds, avs, k', L, ⟨hk, hds⟩, hbd, r⟩ := EL (enc := enc) (held := held) (w := w) (fun t s m' h => mg hM8 m t s m' h) fs.toList 0 l cs hl (by rw [hcl, hc]; simp [Sh.sz]) (fun f hm => by
      obtain ⟨i, hi, rfl⟩ := List.mem_iff_getElem.1 hm
      have hi' : i < fs.size := by simpa using hi
      have hfi : fs[i]? = some (fs.toList[i]) := by simp [hi']
      have h1 := hf i _ hfi
      have hxi : xs[i]? = some (xs[i]'om) := List.getElem?_eq_getElem om
      rw [hxi] at h1
      refine ⟨n', _, h1, nU hfz fun x hm => ?_, fun x hx => hM x (dR (i := i) (by simp [hi']) (by rw [List.getElem?_map, hxi]; rfl) hx)⟩
      rw [List.mem_flatMap]
      exact ⟨_, List.getElem_mem om, hm⟩) k0
     rw [List.drop_zero] at r
     refine ⟨.row ds, avs, k', L, ⟨?_, by simpa only [Sh.EK] using hk⟩, .row _ om hbd, ⟨r.le, r.ids, r.nodup, fun h hn hg => by simp only [Rp]; exact ⟨ds, rfl, r.rp h hn hg⟩, r.vr⟩⟩
     have := (r.vr (fun id => ((L.find? fun e => e.id == id).map (·.loc))) fun e he => by
      have hf : ∀ (l : List En), (l.Pairwise fun a b => a.id ≠ b.id) → e ∈ l → l.find? (fun x => x.id == e.id) = some e := by
       intro l
       induction l with
       | nil => intro _ he; cases he
       | cons x l ih =>
        intro hp he
        rw [List.pairwise_cons] at hp
        rcases List.mem_cons.1 he with rfl | he
        ·rw [List.find?_cons_of_pos (by simp)]
        ·rw [List.find?_cons_of_neg (by simpa using hp.1 e he)]
         exact ih hp.2 he
      rw [hf L r.nodup he]; rfl).1.length
     rw [this, hcl, hc]
    ·cases e
   ·cases e
  ·rename_i e0 ht
   split at e
   ·rename_i s0 q0 hs0
    split at e
    ·rename_i hp
     obtain ⟨rfl, hc⟩ := ok_some _ e
     obtain ⟨h1, h2⟩ := mg hM8 m e0 s0 q0 hs0
     exact ⟨hc, DK ht hp.1 hp.2 h1 h2⟩
    ·cases e
   ·cases e
  ·cases e
end
/-! the start of a run -/
def zy : List En → Tr AB
 | [] => .nil
 | e :: l => Tr.set depth (zy l) e.id (.cells e.vs)
theorem gy : ∀ {l : List En}, (∀ e ∈ l, e.id < e.id + 1) → ∀ {id : Nat} {b : AB}, Tr.get (zy l) id = some b → ∃ e ∈ l, e.id = id ∧ b = .cells e.vs
 | [], _, id, b, q => by
  have : Tr.get (Tr.nil : Tr AB) id = some b := q
  rw [Tr.get_nil] at this; cases this
 | e :: l, hl, id, b, q => by
  have q' : Tr.get (Tr.set depth (zy l) e.id (.cells e.vs)) id = some b := q
  rw [bZ _ _ _ _ (hl e (by simp))] at q'
  by_cases x : e.id = id
  ·rw [if_pos x] at q'; cases q'
   exact ⟨e, by simp, x, rfl⟩
  ·rw [if_neg x] at q'
   obtain ⟨e', h1, h2⟩ := gy (fun e he => hl e (by simp [he])) q'
   exact ⟨e', by simp [h1], h2⟩
theorem vI : ∀ {l : List En}, (∀ e ∈ l, e.id < e.id + 1) → (l.Pairwise fun a b => a.id ≠ b.id) → ∀ e ∈ l, Tr.get (zy l) e.id = some (.cells e.vs)
 | [], _, _, e, he => by cases he
 | x :: l, hl, hp, e, he => by
  rw [List.pairwise_cons] at hp
  show Tr.get (Tr.set depth (zy l) x.id (.cells x.vs)) e.id = _
  rw [bZ _ _ _ _ (hl x (by simp))]
  rcases List.mem_cons.1 he with rfl | he
  ·rw [if_pos rfl]
  ·rw [if_neg (hp.1 e he)]
   exact vI (fun e he => hl e (by simp [he])) hp.2 e he
theorem zA : ∀ {l : List En}, (l.Pairwise fun a b => a.id ≠ b.id) → ∀ e ∈ l, l.find? (fun x => x.id == e.id) = some e
 | [], _, e, he => by cases he
 | x :: l, hp, e, he => by
  rw [List.pairwise_cons] at hp
  rcases List.mem_cons.1 he with rfl | he
  ·rw [List.find?_cons_of_pos (by simp)]
  ·rw [List.find?_cons_of_neg (by simpa using hp.1 e he)]
   exact zA hp.2 e he
theorem eK.start {w : World} {ng k : Nat} {cs : List Value} {avs : List AV} {L : List En} {R : H → Prop} (r : eK w ng k cs avs L R) :
    ∃ (h0 : H) (β : cn), h0.n = k ∧ WF h0 ∧ Cx (top k) h0 ∧ R h0 ∧ bE β avs cs ∧ HR k β (view (top k) h0) w ∧ GB ng β ∧ ∀ id, k ≤ id → β id = none := by
 have bV : ∀ e ∈ L, e.id < e.id + 1 := fun e _ => Nat.lt_succ_self _
 let β : cn := fun id => if id < ng then some ⟨id, 0, 0, dv⟩ else (L.find? fun e => e.id == id).map (·.loc)
 have hβ : ∀ e ∈ L, β e.id = some e.loc := fun e he => by
  show (if _ then _ else _) = _
  rw [if_neg (by have := (r.ids e he).1; omega), zA r.nodup e he]; rfl
 have hv := r.vr β hβ
 refine ⟨⟨zy L, k⟩, β, rfl, ⟨fun id h => ?_, Nat.le_refl _⟩, ⟨Nat.le_refl _, fun id _ => ew (Nat.zero_le _)⟩, r.rp _ (Nat.le_refl _) fun e he => vI bV r.nodup e he, hv.1, ⟨fun id b q => ?_, fun i j b d _ _ q1 q2 _ _ _ => ?_⟩, fun g hg => ⟨0, by show (if _ then _ else _) = _; rw [if_pos hg]⟩, fun id h => ?_⟩
 ·cases hq : Tr.get (zy L) id with
  | none => rfl
  | some b =>
   obtain ⟨e, h1, h2, _⟩ := gy bV hq
   have := (r.ids e h1).2
   have h' : k ≤ id := h
   omega
 ·obtain ⟨e, h1, h2, rfl⟩ := gy bV (da q).1
  subst h2
  obtain ⟨h3, h4⟩ := hv.2 e h1
  exact ⟨e.loc, hβ e h1, h3, h4⟩
 ·obtain ⟨e, h1, h2, _⟩ := gy bV (da q1).1
  obtain ⟨e', h1', h2', _⟩ := gy bV (da q2).1
  have := (r.ids e h1).2
  have := (r.ids e' h1').2
  exact Or.inr ⟨om, om⟩
 ·show (if _ then _ else _) = _
  have := r.le
  rw [if_neg (by omega)]
  cases hf : L.find? fun e => e.id == id with
  | none => rfl
  | some e =>
   have h1 := List.mem_of_find?_eq_some hf
   have h2 := List.find?_some hf
   have h3 := (r.ids e h1).2
   simp at h2; omega
end
section
open Go Go.RowKit
theorem eK.NB {w : World} {ng k : Nat} {cs : List Value} {avs : List AV} {L : List En} {R : H → Prop} (r : eK w ng k cs avs L R) (sz : Nat → Nat) (GL : List (Nat × List AV)) (hG : ∀ p ∈ GL, p.1 < ng) (hnd : GL.Pairwise fun a b => a.1 ≠ b.1)
    (hGb : ∀ (β : cn) (p : Nat × List AV), p ∈ GL → p.1 < w.heap.size ∧ BR β ⟨p.1, 0, sz p.1, dv⟩ w (.cells p.2)) :
    ∃ (h0 : H) (β : cn), h0.n = k ∧ WF h0 ∧ Cx (top k) h0 ∧ R h0 ∧ bE β avs cs ∧ HR k β (view (top k) h0) w ∧ GB ng β ∧ (∀ id, k ≤ id → β id = none) ∧ (∀ e ∈ L, β e.id = some e.loc) ∧ ∀ p ∈ GL, h0.get p.1 = some (.cells p.2) := by
 let E : List En := GL.map (fun p => ⟨p.1, ⟨p.1, 0, sz p.1, dv⟩, p.2⟩) ++ L
 have hrle := r.le
 have hEl : ∀ e ∈ E, (∃ p ∈ GL, e = ⟨p.1, ⟨p.1, 0, sz p.1, dv⟩, p.2⟩) ∨ e ∈ L := fun e he => by
  rcases List.mem_append.1 he with q | q
  ·obtain ⟨p, h1, h2⟩ := List.mem_map.1 q
   exact Or.inl ⟨p, h1, h2.symm⟩
  ·exact Or.inr q
 have bV : ∀ e ∈ E, e.id < k := fun e he => by
  rcases hEl e he with ⟨p, h1, rfl⟩ | q
  ·have := hG p h1; show p.1 < k; omega
  ·exact (r.ids e q).2
 have hid' : ∀ e ∈ E, e.id < e.id + 1 := fun e _ => Nat.lt_succ_self _
 have hpw : E.Pairwise fun a b => a.id ≠ b.id := by
  rw [List.pairwise_append]
  refine ⟨?_, r.nodup, fun a ha b hb q => ?_⟩
  ·rw [List.pairwise_map]; exact hnd
  ·obtain ⟨p, h1, h2⟩ := List.mem_map.1 ha
   have h3 := hG p h1
   have h4 := (r.ids b hb).1
   rw [← h2] at q
   have q' : p.1 = b.id := q
   omega
 let β : cn := fun id => if id < ng then some ⟨id, 0, sz id, dv⟩ else (L.find? fun e => e.id == id).map (·.loc)
 have hβ : ∀ e ∈ L, β e.id = some e.loc := fun e he => by
  show (if _ then _ else _) = _
  rw [if_neg (by have := (r.ids e he).1; omega), zA r.nodup e he]; rfl
 have hv := r.vr β hβ
 have hmem := vI hid' hpw
 refine ⟨⟨zy E, k⟩, β, rfl, ⟨fun id h => ?_, Nat.le_refl _⟩, ⟨Nat.le_refl _, fun id _ => ew (Nat.zero_le _)⟩, r.rp _ (Nat.le_refl _) fun e he => hmem e (List.mem_append_right _ he), hv.1, ⟨fun id b q => ?_, fun i j b d _ _ q1 q2 _ _ _ => ?_⟩, fun g hg => ⟨sz g, by show (if _ then _ else _) = _; rw [if_pos hg]⟩, fun id h => ?_, hβ, fun p hp => ?_⟩
 ·cases hq : Tr.get (zy E) id with
  | none => rfl
  | some b =>
   obtain ⟨e, h1, h2, _⟩ := gy hid' hq
   have := bV e h1
   have h' : k ≤ id := h
   omega
 ·obtain ⟨e, h1, h2, rfl⟩ := gy hid' (da q).1
  subst h2
  rcases hEl e h1 with ⟨p, h3, rfl⟩ | h3
  ·obtain ⟨h4, h5⟩ := hGb β p h3
   exact ⟨_, by show (if _ then _ else _) = _; rw [if_pos (hG p h3)], h4, h5⟩
  ·obtain ⟨h4, h5⟩ := hv.2 e h3
   exact ⟨e.loc, hβ e h3, h4, h5⟩
 ·obtain ⟨e, h1, h2, _⟩ := gy hid' (da q1).1
  obtain ⟨e', h1', h2', _⟩ := gy hid' (da q2).1
  have := bV e h1
  have := bV e' h1'
  exact Or.inr ⟨om, om⟩
 ·show (if _ then _ else _) = _
  rw [if_neg (by omega)]
  cases hf : L.find? fun e => e.id == id with
  | none => rfl
  | some e =>
   have h1 := List.mem_of_find?_eq_some hf
   have h2 := List.find?_some hf
   have h3 := (r.ids e h1).2
   simp at h2; omega
 ·exact hmem ⟨p.1, ⟨p.1, 0, sz p.1, dv⟩, p.2⟩ (List.mem_append_left _ (List.mem_map.2 ⟨p, hp, rfl⟩))
end
end Go.Proofs.YtgaihilgffficaaGreatDoor.Ev
