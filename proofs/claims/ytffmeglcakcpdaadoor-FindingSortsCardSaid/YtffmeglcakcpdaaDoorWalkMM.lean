/- symMergeCmpFunc over a row of findings: the general step, the whole. -/
import Derived.Test.YtffmeglcakcpdaaDoorWalkM
import Derived.Deep.CutRange
set_option linter.unusedVariables false
namespace Go.Proofs.YtffmeglcakcpdaaDoor
open Go.RowKit

/-- the parts of a merge -/
structure Sym (w0 : World) (blk : Nat) (P u v u1 u2 v1 v2 : List El) (a s m e mid b : Nat) : Prop where
  eu : u = u1 ++ u2
  ev : v = v1 ++ v2
  l0 : P.length = a
  l1 : (P ++ u1).length = s
  l2 : s + u2.length = m
  l3 : m + v1.length = e
  l4 : a + u1.length = s
  l5 : s + v1.length = mid
  l6 : mid + u2.length = e
  l7 : e + v2.length = b
  su : Srt.Sorted cmpEl (u1 ++ u2)
  sv : Srt.Sorted cmpEl (v1 ++ v2)
  cross : ∀ x, x ∈ u1 ++ v1 → ∀ y, y ∈ u2 ++ v2 → Srt.Le cmpEl x y
  g1 : ∀ y ∈ u1, Good w0 blk y
  g2 : ∀ y ∈ u2, Good w0 blk y
  g3 : ∀ y ∈ v1, Good w0 blk y
  g4 : ∀ y ∈ v2, Good w0 blk y
theorem nil_of_len {l : List El} (h : l.length = 0) : l = [] := List.length_eq_zero_iff.1 h
section
variable {w0 : World} {blk : Nat} {P u v u1 u2 v1 v2 : List El} {a s m e mid b : Nat}
theorem Sym.left_done (h : Sym w0 blk P u v u1 u2 v1 v2 a s m e mid b) (hn : ¬ (a < s ∧ s < mid)) : Srt.Sorted cmpEl (u1 ++ v1) := by
  have h4 := h.l4
  have h5 := h.l5
  by_cases h1 : u1.length = 0
  · rw [nil_of_len h1]; simpa using h.sv.left
  · rw [nil_of_len (show v1.length = 0 by omega)]; simpa using h.su.left
theorem Sym.right_done (h : Sym w0 blk P u v u1 u2 v1 v2 a s m e mid b) (hn : ¬ (mid < e ∧ e < b)) : Srt.Sorted cmpEl (u2 ++ v2) := by
  have h4 := h.l6
  have h5 := h.l7
  by_cases h1 : u2.length = 0
  · rw [nil_of_len h1]; simpa using h.sv.right
  · rw [nil_of_len (show v2.length = 0 by omega)]; simpa using h.su.right
theorem Sym.unmoved {S xs : List El} {W : World} (h : Sym w0 blk P u v u1 u2 v1 v2 a s m e mid b) (hx : xs = (P ++ u1) ++ (u2 ++ (v1 ++ (v2 ++ S)))) (hn : ¬ (s < m ∧ m < e)) (R : Row w0 blk xs W) : Row w0 blk (P ++ (u1 ++ (v1 ++ (u2 ++ (v2 ++ S))))) W := by
  have h4 := h.l2
  have h5 := h.l3
  rw [hx] at R
  by_cases h1 : u2.length = 0
  · rw [nil_of_len h1] at R ⊢; simpa using R
  · rw [nil_of_len (show v1.length = 0 by omega)] at R ⊢; simpa using R
theorem Sym.len1 (h : Sym w0 blk P u v u1 u2 v1 v2 a s m e mid b) {t1 : List El} (hp : t1.Perm (u1 ++ v1)) : (P ++ t1).length = mid := by
  have h1 := hp.length_eq
  have h2 := h.l0
  have h3 := h.l4
  have h4 := h.l5
  simp at h1 ⊢; omega
theorem Sym.perm (h : Sym w0 blk P u v u1 u2 v1 v2 a s m e mid b) {t1 t2 : List El} (h1 : t1.Perm (u1 ++ v1)) (h2 : t2.Perm (u2 ++ v2)) : (t1 ++ t2).Perm (u ++ v) := by
  rw [h.eu, h.ev]
  refine (h1.append h2).trans ?_
  have : (v1 ++ u2).Perm (u2 ++ v1) := List.perm_append_comm
  have h3 := (List.Perm.append_left u1 (List.Perm.append_right v2 this))
  simpa using h3
theorem Sym.sorted (h : Sym w0 blk P u v u1 u2 v1 v2 a s m e mid b) {t1 t2 : List El} (h1 : t1.Perm (u1 ++ v1)) (h2 : t2.Perm (u2 ++ v2)) (s1 : Srt.Sorted cmpEl t1) (s2 : Srt.Sorted cmpEl t2) : Srt.Sorted cmpEl (t1 ++ t2) :=
  Srt.sorted_append s1 s2 (fun x hx y hy => h.cross x (h1.subset hx) y (h2.subset hy))
end

/-! the search -/
def symF (xs : List El) (p c : Nat) : Int := cmpEl xs[p - c]! xs[c]!
theorem seg_u {xs P u v S : List El} {a m i : Nat} (hx : xs = P ++ (u ++ (v ++ S))) (hP : P.length = a) (hu : a + u.length = m) (h1 : a ≤ i) (h2 : i < m) : ∃ h : i - a < u.length, xs[i]! = u[i - a] := by
  refine ⟨by omega, ?_⟩
  have hl : i < xs.length := by rw [hx]; simp; omega
  rw [Srt.get_at hl]
  subst hx
  rw [List.getElem_append_right (by omega), List.getElem_append_left (by omega)]
  simp only [hP]
theorem seg_v {xs P u v S : List El} {a m b i : Nat} (hx : xs = P ++ (u ++ (v ++ S))) (hP : P.length = a) (hu : a + u.length = m) (hv : m + v.length = b) (h1 : m ≤ i) (h2 : i < b) : ∃ h : i - m < v.length, xs[i]! = v[i - m] := by
  refine ⟨by omega, ?_⟩
  have hl : i < xs.length := by rw [hx]; simp; omega
  rw [Srt.get_at hl]
  subst hx
  rw [List.getElem_append_right (by omega), List.getElem_append_right (by omega), List.getElem_append_left (by omega)]
  congr 1
  omega
theorem symF_down {xs P u v S : List El} {a m b p c c' : Nat} (hx : xs = P ++ (u ++ (v ++ S))) (hP : P.length = a) (hu : a + u.length = m) (hv : m + v.length = b) (su : Srt.Sorted cmpEl u) (sv : Srt.Sorted cmpEl v)
    (h1 : a ≤ c') (h2 : c' ≤ c) (h3 : c < m) (h4 : m + c ≤ p) (h5 : p < b + c') (h : 0 ≤ symF xs p c) : 0 ≤ symF xs p c' := by
  obtain ⟨k1, e1⟩ := seg_u hx hP hu h1 (show c' < m by omega)
  obtain ⟨k2, e2⟩ := seg_u hx hP hu (show a ≤ c by omega) h3
  obtain ⟨k3, e3⟩ := seg_v hx hP hu hv (show m ≤ p - c by omega) (show p - c < b by omega)
  obtain ⟨k4, e4⟩ := seg_v hx hP hu hv (show m ≤ p - c' by omega) (show p - c' < b by omega)
  unfold symF at *
  rw [e2, e3] at h
  rw [e1, e4]
  have l1 := su.at el_cmp.toCmp (show c' - a ≤ c - a by omega) k2
  have l2 := sv.at el_cmp.toCmp (show p - c - m ≤ p - c' - m by omega) k4
  have l3 : Srt.Le cmpEl u[c - a] v[p - c - m] := by unfold Srt.Le; omega
  have tr : ∀ x y z, Srt.Le cmpEl x y → Srt.Le cmpEl y z → Srt.Le cmpEl x z := fun x y z => el_cmp.toCmp.trans x y z
  have := tr _ _ _ l1 (tr _ _ _ l3 l2)
  unfold Srt.Le at this; omega
theorem symF_up {xs P u v S : List El} {a m b p c c' : Nat} (hx : xs = P ++ (u ++ (v ++ S))) (hP : P.length = a) (hu : a + u.length = m) (hv : m + v.length = b) (su : Srt.Sorted cmpEl u) (sv : Srt.Sorted cmpEl v)
    (h1 : a ≤ c') (h2 : c' ≤ c) (h3 : c < m) (h4 : m + c ≤ p) (h5 : p < b + c') (h : symF xs p c' < 0) : symF xs p c < 0 := by
  by_cases h0 : symF xs p c < 0
  · exact h0
  · have := symF_down hx hP hu hv su sv h1 h2 h3 h4 h5 (by omega)
    omega

/-- the parts, as the search has found them -/
theorem sym_parts {w0 : World} {blk : Nat} {xs P u v S : List El} {a m b n p mid s e lo hi : Nat} (hx : xs = P ++ (u ++ (v ++ S))) (hP : P.length = a) (hu : a + u.length = m) (hv : m + v.length = b) (su : Srt.Sorted cmpEl u) (sv : Srt.Sorted cmpEl v)
    (gu : ∀ y ∈ u, Good w0 blk y) (gv : ∀ y ∈ v, Good w0 blk y) (hn : n = mid + m) (hp : p + 1 = n) (he : e + s = n) (h1 : lo ≤ s) (h2 : s ≤ hi) (h3 : lo = a ∨ lo + b = n) (h4 : hi = m ∨ hi = mid) (h5 : a ≤ lo) (h6 : hi ≤ m) (h7 : hi ≤ mid) (h8 : n ≤ lo + b) (hmb : mid ≤ b)
    (L : ∀ c, lo ≤ c → c < s → 0 ≤ symF xs p c) (G : ∀ c, s ≤ c → c < hi → symF xs p c < 0) :
    ∃ u1 u2 v1 v2, Sym w0 blk P u v u1 u2 v1 v2 a s m e mid b ∧ xs = (P ++ u1) ++ (u2 ++ (v1 ++ (v2 ++ S))) := by
  have eu : u = u.take (s - a) ++ u.drop (s - a) := (List.take_append_drop _ _).symm
  have ev : v = v.take (e - m) ++ v.drop (e - m) := (List.take_append_drop _ _).symm
  refine ⟨u.take (s - a), u.drop (s - a), v.take (e - m), v.drop (e - m), ⟨eu, ev, hP, ?_, ?_, ?_, ?_, ?_, ?_, ?_, ?_, ?_, ?_, ?_, ?_, ?_, ?_⟩, ?_⟩
  · simp; omega
  · simp; omega
  · simp; omega
  · simp; omega
  · simp; omega
  · simp; omega
  · simp; omega
  · rw [← eu]; exact su
  · rw [← ev]; exact sv
  · refine Srt.halves el_cmp.toCmp (by rw [← eu]; exact su) (by rw [← ev]; exact sv) (fun k1 k2 => ?_) (fun k1 k2 => ?_)
    · simp at k1 k2
      have hs : lo ≤ s - 1 ∧ s - 1 < s := by omega
      have := L (s - 1) hs.1 hs.2
      obtain ⟨q1, e1⟩ := seg_u hx hP hu (show a ≤ s - 1 by omega) (show s - 1 < m by omega)
      obtain ⟨q2, e2⟩ := seg_v hx hP hu hv (show m ≤ p - (s - 1) by omega) (show p - (s - 1) < b by omega)
      unfold symF at this
      rw [e1, e2] at this
      unfold Srt.Le
      rw [List.getElem_take, List.getElem_drop]
      have i1 : (List.take (s - a) u).length - 1 = s - 1 - a := by simp; omega
      have i2 : e - m + 0 = p - (s - 1) - m := by omega
      simp only [i1, i2]
      omega
    · simp at k1 k2
      have := G s (Nat.le_refl _) (by omega)
      obtain ⟨q1, e1⟩ := seg_u hx hP hu (show a ≤ s by omega) (show s < m by omega)
      obtain ⟨q2, e2⟩ := seg_v hx hP hu hv (show m ≤ p - s by omega) (show p - s < b by omega)
      unfold symF at this
      rw [e1, e2] at this
      have := el_cmp.toCmp.le_of_lt this
      rw [List.getElem_take, List.getElem_drop]
      have i1 : (List.take (e - m) v).length - 1 = p - s - m := by simp; omega
      have i2 : s - a + 0 = s - a := by omega
      simp only [i1, i2]
      exact this
  · exact fun y hy => gu y (List.mem_of_mem_take hy)
  · exact fun y hy => gu y (List.mem_of_mem_drop hy)
  · exact fun y hy => gv y (List.mem_of_mem_take hy)
  · exact fun y hy => gv y (List.mem_of_mem_drop hy)
  · rw [hx]
    conv => lhs; rw [eu, ev]
    simp only [List.append_assoc]

/-- symMerge of at most d elements -/
def SymOk (w0 : World) (blk d : Nat) : Prop := ∀ (cap a m b : Nat) (xs P u v S : List El) (w : World), b ≤ a + d → Row w0 blk xs w → xs = P ++ (u ++ (v ++ S)) → P.length = a → a + u.length = m → m + v.length = b → a < m → m < b → xs.length ≤ 1099511627776 →
    Srt.Sorted cmpEl u → Srt.Sorted cmpEl v → (∀ y ∈ u, Good w0 blk y) → (∀ y ∈ v, Good w0 blk y) →
    Calls Tryd.prog 61 #[.slice (some ⟨blk, 0, none⟩) xs.length cap, .int .i64 a, .int .i64 m, .int .i64 b, cmpV] w fun e w' => e = .returned (.tuple #[]) ∧ ∃ t, t.Perm (u ++ v) ∧ Srt.Sorted cmpEl t ∧ Row w0 blk (P ++ (t ++ S)) w'

set_option maxRecDepth 100000 in
set_option maxHeartbeats 16000000 in
theorem symMerge_step (w0 : World) (blk d : Nat) (ih : SymOk w0 blk d) (cap a m b : Nat) (xs P u v S : List El) (w : World) (hd : b ≤ a + d + 1) (R : Row w0 blk xs w) (hx : xs = P ++ (u ++ (v ++ S))) (hP : P.length = a) (hu : a + u.length = m) (hv : m + v.length = b) (h1 : a + 1 < m) (h2 : m + 1 < b) (hn : xs.length ≤ 1099511627776)
    (su : Srt.Sorted cmpEl u) (sv : Srt.Sorted cmpEl v) (gu : ∀ y ∈ u, Good w0 blk y) (gv : ∀ y ∈ v, Good w0 blk y) :
    Calls Tryd.prog 61 #[.slice (some ⟨blk, 0, none⟩) xs.length cap, .int .i64 a, .int .i64 m, .int .i64 b, cmpV] w fun e w' => e = .returned (.tuple #[]) ∧ ∃ t, t.Perm (u ++ v) ∧ Srt.Sorted cmpEl t ∧ Row w0 blk (P ++ (t ++ S)) w' := by
  have IH := Lib.hid ih
  have hbx : b ≤ xs.length := by rw [hx]; simp; omega
  have HR0 := Lib.hid R
  have HX0 := Lib.hid hx
  have HU := Lib.hid (And.intro hP (And.intro hu (And.intro hv (And.intro su (And.intro sv (And.intro gu gv))))))
  have hma1 : ((m : Int) - (a : Int) == 1) = false := by simp; omega
  have hma2 : ((b : Int) - (m : Int) == 1) = false := by simp; omega
  clear ih R hx hP hu hv su sv gu gv
  obtain ⟨mid, hmid0⟩ : ∃ mid, mid = (a + b) / 2 := ⟨_, rfl⟩
  have hmid : ((a : Int) + (b : Int)) / 2 = (mid : Int) := by omega
  have hm1 : a < mid := by omega
  have hm2 : mid < b := by omega
  have hm3 : 2 * mid ≤ a + b := by omega
  have hm4 : a + b ≤ 2 * mid + 1 := by omega
  clear hmid0
  obtain ⟨n, hn0⟩ : ∃ n, n = mid + m := ⟨_, rfl⟩
  have hnn : (mid : Int) + (m : Int) = (n : Int) := by omega
  obtain ⟨p, hp0⟩ : ∃ p, p + 1 = n := ⟨n - 1, by omega⟩
  have hpp : (n : Int) - 1 = (p : Int) := by omega
  have HN0 := Lib.hid hn0
  have HP0 := Lib.hid hp0
  have hn1 : n ≤ mid + m := by omega
  have hn2 : mid + m ≤ n := by omega
  have hp1 : p + 1 ≤ n := by omega
  have hp2 : n ≤ p + 1 := by omega
  clear hn0 hp0
  go_enter Tryd.func61, Tryd.ntmps61
  go_upto_if 140 with (fail)
  go_cut [20, 21] from 138 to 146 (fun s20 s21 wx => ∃ lo hi : Nat, s20 = .int .i64 lo ∧ s21 = .int .i64 hi ∧ lo ≤ hi ∧ a ≤ lo ∧ hi ≤ m ∧ hi ≤ mid ∧ n ≤ lo + b ∧ Hid ((lo = a ∨ lo + b = n) ∧ (hi = m ∨ hi = mid)) ∧ wx = w)
  case first =>
    by_cases hc : mid < m
    · have dc : decide ((m : Int) > (mid : Int)) = true := decide_eq_true (by omega)
      have hcz : (mid : Int) < (m : Int) := by omega
      obtain ⟨lo, hlo⟩ : ∃ lo, lo = n - b := ⟨_, rfl⟩
      have hnb : (n : Int) - (b : Int) = (lo : Int) := by omega
      have hlo1 : lo + b ≤ n := by omega
      have hlo2 : n ≤ lo + b := by omega
      clear hlo
      go_wp2_with fail
      go_meet
      exact ⟨lo, mid, rfl, rfl, by omega, by omega, by omega, by omega, by omega, ⟨Or.inr (by omega), Or.inr rfl⟩, rfl⟩
    · have dc : decide ((m : Int) > (mid : Int)) = false := decide_eq_false (by omega)
      have hcz : ¬ (mid : Int) < (m : Int) := by omega
      go_wp2_with fail
      go_meet
      exact ⟨a, m, rfl, rfl, by omega, by omega, by omega, by omega, by omega, ⟨Or.inl rfl, Or.inl rfl⟩, rfl⟩
  case rest =>
    obtain ⟨lo, hi, rfl, rfl, hlh, hal, him, himid, hnlb, HLH, rfl⟩ := hcut
    go_upto_region 33 with fail
    go_loopg [20, 21] b (fun g vs vr wr => ∃ (s r : Nat), vs = .int .i64 s ∧ vr = .int .i64 r ∧ lo ≤ s ∧ s ≤ r ∧ r ≤ hi ∧ r - s ≤ g ∧ Hid (Below wc.heap.size wc wr) ∧ Hid (∀ c, lo ≤ c → c < s → 0 ≤ symF xs p c) ∧ Hid (∀ c, r ≤ c → c < hi → symF xs p c < 0))
    case atStart => exact ⟨lo, hi, rfl, rfl, by omega, by omega, by omega, by omega, Below.refl _ _, fun c h1 h2 => by omega, fun c h1 h2 => by omega⟩
    case round =>
      obtain ⟨s, r, rfl, rfl, hls, hsr, hrh, hg, HB, HLO, HHI⟩ := hrel
      by_cases hlt : s < r
      · have hm3 : s ≤ (s + r) / 2 := by omega
        have hm4 : (s + r) / 2 < r := by omega
        have hmid2 : ((s : Int) + (r : Int)) / 2 = (((s + r) / 2 : Nat) : Int) := by omega
        generalize (s + r) / 2 = c at *
        obtain ⟨pc, hpc⟩ : ∃ pc, pc = p - c := ⟨_, rfl⟩
        have hpcz : (p : Int) - (c : Int) = (pc : Int) := by omega
        have hcm : c < m := by omega
        have hcp : m + c ≤ p := by omega
        have hpb : p < b + c := by omega
        obtain ⟨hP, hu, hv, su, sv, gu, gv⟩ := HU.out
        obtain ⟨k1, e1⟩ := seg_u HX0.out hP hu (show a ≤ c by omega) hcm
        obtain ⟨k2, e2⟩ := seg_v HX0.out hP hu hv (show m ≤ pc by omega) (show pc < b by omega)
        have R1 := HR0.out.below HB.out
        have s1 := R1.six! (show pc < xs.length by omega)
        have s2 := R1.six! (show c < xs.length by omega)
        have g1 : Good w0 blk xs[c]! := by rw [e1]; exact gu _ (List.getElem_mem k1)
        have g2 : Good w0 blk xs[pc]! := by rw [e2]; exact gv _ (List.getElem_mem k2)
        have HQ := Lib.hid (R1.cmpQ g2 g1)
        have LO2 : Hid (0 ≤ cmpEl xs[pc]! xs[c]! → ∀ c', lo ≤ c' → c' < c + 1 → 0 ≤ symF xs p c') := fun hc c' h1' h2' => by
          rw [hpc] at hc
          exact symF_down HX0.out hP hu hv su sv (by omega) (show c' ≤ c by omega) hcm hcp (by omega) hc
        have HI2 : Hid (cmpEl xs[pc]! xs[c]! < 0 → ∀ c', c ≤ c' → c' < hi → symF xs p c' < 0) := fun hc c' h1' h2' => by
          rw [hpc] at hc
          exact symF_up HX0.out hP hu hv su sv (by omega) h1' (by omega) (by omega) hpb hc
        clear R1 g1 g2 e1 e2 k1 k2 hP hu hv su sv gu gv
        generalize xs[pc]! = y at *
        generalize xs[c]! = z at *
        have hpc1 : pc + c ≤ p := by omega
        have hpc2 : p ≤ pc + c := by omega
        clear hpc
        obtain ⟨p0, p1, p2, p3, p4, p5⟩ := s1
        obtain ⟨q0, q1, q2, q3, q4, q5⟩ := s2
        have r0 := cell_regrown p0
        have r1 := cell_regrown p1
        have r2 := cell_regrown p2
        have r3 := cell_regrown p3
        have r4 := cell_regrown p4
        have r5 := cell_regrown p5
        have v0 := cell_regrown q0
        have v1 := cell_regrown q1
        have v2 := cell_regrown q2
        have v3 := cell_regrown q3
        have v4 := cell_regrown q4
        have v5 := cell_regrown q5
        clear p0 p1 p2 p3 p4 p5 q0 q1 q2 q3 q4 q5
        have hi1 : (pc : Int) < (xs.length : Int) := by omega
        have hwpc : IntKind.i64.wrap (pc : Int) = (pc : Int) := IntWalk.i64_in _ (by omega)
        have hwp0 : (0 : Int) ≤ (pc : Int) := by omega
        have hi2 : (c : Int) < (xs.length : Int) := by omega
        go_wp2_with fail
        refine wp_region_below (by kernel_rfl) (by kernel_rfl) ?_
        repeat (quiet_step (exact HQ.out _ _))
        refine wpQuiet_nil ?_
        clear r0 r1 r2 r3 r4 r5 v0 v1 v2 v3 v4 v5
        intro wq hq2
        have HB2 : Hid (Below wc.heap.size wc wq) := over hq2.out HB.out HB.out.size
        by_cases hlv : cmpEl y z < 0
        · have hlz : (!decide (cmpEl y z < 0)) = false := by simp [hlv]
          rw [hlz]
          have HI3 := Lib.hid (HI2.out hlv)
          clear LO2 HI2 HHI HQ
          go_wp2_with fail
          go_roundg (c - s)
          case measure => omega
          case rel => exact ⟨s, c, rfl, by go_num, by omega, by omega, by omega, by omega, HB2, HLO, HI3⟩
        · have hlz : (!decide (cmpEl y z < 0)) = true := by simp [hlv]
          rw [hlz]
          have LO3 := Lib.hid (LO2.out (by omega))
          clear LO2 HI2 HLO HQ
          go_wp2_with fail
          go_roundg (r - (c + 1))
          case measure => omega
          case rel => exact ⟨c + 1, r, by go_num, rfl, by omega, by omega, by omega, by omega, HB2, LO3, HHI⟩
      · obtain rfl : s = r := by omega
        obtain ⟨e, he⟩ : ∃ e, e + s = n := ⟨n - s, by omega⟩
        have hez : (n : Int) - (s : Int) = (e : Int) := by omega
        obtain ⟨u1, u2, v1, v2, hY, hXS⟩ := sym_parts HX0.out HU.out.1 HU.out.2.1 HU.out.2.2.1 HU.out.2.2.2.1 HU.out.2.2.2.2.1 HU.out.2.2.2.2.2.1 HU.out.2.2.2.2.2.2 HN0.out HP0.out he hls hrh HLH.out.1 HLH.out.2 hal him himid hnlb (by omega) HLO.out HHI.out
        have HY := Lib.hid hY
        have HXS := Lib.hid hXS
        have hlen : (P ++ (u1 ++ (v1 ++ (u2 ++ (v2 ++ S))))).length = xs.length := by rw [hXS]; simp; omega
        have HLEN := Lib.hid hlen
        have he1 : e + s ≤ n := by omega
        have he2 : n ≤ e + s := by omega
        clear hY hXS hlen HLO HHI he hsr hlt HX0 HU HN0 HP0 HLH
        by_cases hro : s < m ∧ m < e
        · obtain ⟨ho1, ho2⟩ := hro
          have dz1 : (s : Int) < (m : Int) := by omega
          have dz2 : (m : Int) < (e : Int) := by omega
          go_wp2_with fail
          refine (rotate_any blk cap s m e xs _ cmpV w0 _ (HR0.out.below HB.out) (P ++ u1) u2 v1 (v2 ++ S) HXS.out rfl HY.out.l1 HY.out.l2 HY.out.l3 ho1 ho2 hn).mono ?_
          rintro _ w1 ⟨rfl, r1⟩
          have H1 : Hid (Row w0 blk (P ++ (u1 ++ (v1 ++ (u2 ++ (v2 ++ S))))) w1) := Lib.hid (by simpa using r1)
          clear r1 dz1 dz2
          by_cases hle : a < s ∧ s < mid
          · obtain ⟨hl1, hl2⟩ := hle
            have dy1 : (a : Int) < (s : Int) := by omega
            have dy2 : (s : Int) < (mid : Int) := by omega
            go_wp2_with fail
            rw [← HLEN.out]
            refine (IH.out cap a s mid _ P u1 v1 (u2 ++ (v2 ++ S)) _ (by omega) H1.out rfl HY.out.l0 HY.out.l4 HY.out.l5 hl1 hl2 (by rw [HLEN.out]; exact hn) HY.out.su.left HY.out.sv.left HY.out.g1 HY.out.g3).mono ?_
            rintro _ w2 ⟨rfl, t1, x1, x2, x3⟩
            have H2 : Hid (∃ t1, t1.Perm (u1 ++ v1) ∧ Srt.Sorted cmpEl t1 ∧ Row w0 blk (P ++ (t1 ++ (u2 ++ (v2 ++ S)))) w2) := ⟨t1, x1, x2, x3⟩
            clear x1 x2 x3 dy1 dy2 H1
            rw [HLEN.out]
            by_cases hri : mid < e ∧ e < b
            · obtain ⟨hr1, hr2⟩ := hri
              have dx1 : (mid : Int) < (e : Int) := by omega
              have dx2 : (e : Int) < (b : Int) := by omega
              go_wp2_with fail
              obtain ⟨t1, y1, y2, y3⟩ := H2.out
              have y4 := HY.out.len1 y1
              have y5 : xs.length = (P ++ (t1 ++ (u2 ++ (v2 ++ S)))).length := by rw [← HLEN.out]; have := y1.length_eq; simp at this ⊢; omega
              rw [y5]
              refine (IH.out cap mid e b _ (P ++ t1) u2 v2 S _ (by omega) y3 (by simp) y4 HY.out.l6 HY.out.l7 hr1 hr2 (by rw [← y5]; exact hn) HY.out.su.right HY.out.sv.right HY.out.g2 HY.out.g4).mono ?_
              rintro _ w3 ⟨rfl, t2, z1, z2, z3⟩
              have H3 : Hid (∃ t, t.Perm (u ++ v) ∧ Srt.Sorted cmpEl t ∧ Row w0 blk (P ++ (t ++ S)) w3) := ⟨t1 ++ t2, HY.out.perm y1 z1, HY.out.sorted y1 z1 y2 z2, by simpa using z3⟩
              clear y1 y2 y3 y4 z1 z2 z3
              go_wp2_with fail
              go_end0
              exact ⟨rfl, H3.out⟩
            · have H3 : Hid (∃ t, t.Perm (u ++ v) ∧ Srt.Sorted cmpEl t ∧ Row w0 blk (P ++ (t ++ S)) w2) := Lib.hid (by
                obtain ⟨t1, y1, y2, y3⟩ := H2.out
                exact ⟨t1 ++ (u2 ++ v2), HY.out.perm y1 (List.Perm.refl _), HY.out.sorted y1 (List.Perm.refl _) y2 (HY.out.right_done hri), by simpa using y3⟩)
              by_cases hr1 : mid < e
              · have hr2 : ¬ e < b := fun h => hri ⟨hr1, h⟩
                have dx1 : (mid : Int) < (e : Int) := by omega
                have dx2 : ¬ (e : Int) < (b : Int) := by omega
                go_wp2_with fail
                go_end0
                exact ⟨rfl, H3.out⟩
              · have dx1 : ¬ (mid : Int) < (e : Int) := by omega
                go_wp2_with fail
                go_end0
                exact ⟨rfl, H3.out⟩
          · have H2 : Hid (∃ t1, t1.Perm (u1 ++ v1) ∧ Srt.Sorted cmpEl t1 ∧ Row w0 blk (P ++ (t1 ++ (u2 ++ (v2 ++ S)))) w1) := ⟨u1 ++ v1, List.Perm.refl _, HY.out.left_done hle, by have := H1.out; simpa using this⟩
            clear H1
            by_cases hl1 : a < s
            · have hl2 : ¬ s < mid := fun h => hle ⟨hl1, h⟩
              have dy1 : (a : Int) < (s : Int) := by omega
              have dy2 : ¬ (s : Int) < (mid : Int) := by omega
              clear hle
              by_cases hri : mid < e ∧ e < b
              · obtain ⟨hr1, hr2⟩ := hri
                have dx1 : (mid : Int) < (e : Int) := by omega
                have dx2 : (e : Int) < (b : Int) := by omega
                go_wp2_with fail
                obtain ⟨t1, y1, y2, y3⟩ := H2.out
                have y4 := HY.out.len1 y1
                have y5 : xs.length = (P ++ (t1 ++ (u2 ++ (v2 ++ S)))).length := by rw [← HLEN.out]; have := y1.length_eq; simp at this ⊢; omega
                rw [y5]
                refine (IH.out cap mid e b _ (P ++ t1) u2 v2 S _ (by omega) y3 (by simp) y4 HY.out.l6 HY.out.l7 hr1 hr2 (by rw [← y5]; exact hn) HY.out.su.right HY.out.sv.right HY.out.g2 HY.out.g4).mono ?_
                rintro _ w3 ⟨rfl, t2, z1, z2, z3⟩
                have H3 : Hid (∃ t, t.Perm (u ++ v) ∧ Srt.Sorted cmpEl t ∧ Row w0 blk (P ++ (t ++ S)) w3) := ⟨t1 ++ t2, HY.out.perm y1 z1, HY.out.sorted y1 z1 y2 z2, by simpa using z3⟩
                clear y1 y2 y3 y4 z1 z2 z3
                go_wp2_with fail
                go_end0
                exact ⟨rfl, H3.out⟩
              · have H3 : Hid (∃ t, t.Perm (u ++ v) ∧ Srt.Sorted cmpEl t ∧ Row w0 blk (P ++ (t ++ S)) w1) := Lib.hid (by
                  obtain ⟨t1, y1, y2, y3⟩ := H2.out
                  exact ⟨t1 ++ (u2 ++ v2), HY.out.perm y1 (List.Perm.refl _), HY.out.sorted y1 (List.Perm.refl _) y2 (HY.out.right_done hri), by simpa using y3⟩)
                by_cases hr1 : mid < e
                · have hr2 : ¬ e < b := fun h => hri ⟨hr1, h⟩
                  have dx1 : (mid : Int) < (e : Int) := by omega
                  have dx2 : ¬ (e : Int) < (b : Int) := by omega
                  go_wp2_with fail
                  go_end0
                  exact ⟨rfl, H3.out⟩
                · have dx1 : ¬ (mid : Int) < (e : Int) := by omega
                  go_wp2_with fail
                  go_end0
                  exact ⟨rfl, H3.out⟩
            · have dy1 : ¬ (a : Int) < (s : Int) := by omega
              clear hle
              by_cases hri : mid < e ∧ e < b
              · obtain ⟨hr1, hr2⟩ := hri
                have dx1 : (mid : Int) < (e : Int) := by omega
                have dx2 : (e : Int) < (b : Int) := by omega
                go_wp2_with fail
                obtain ⟨t1, y1, y2, y3⟩ := H2.out
                have y4 := HY.out.len1 y1
                have y5 : xs.length = (P ++ (t1 ++ (u2 ++ (v2 ++ S)))).length := by rw [← HLEN.out]; have := y1.length_eq; simp at this ⊢; omega
                rw [y5]
                refine (IH.out cap mid e b _ (P ++ t1) u2 v2 S _ (by omega) y3 (by simp) y4 HY.out.l6 HY.out.l7 hr1 hr2 (by rw [← y5]; exact hn) HY.out.su.right HY.out.sv.right HY.out.g2 HY.out.g4).mono ?_
                rintro _ w3 ⟨rfl, t2, z1, z2, z3⟩
                have H3 : Hid (∃ t, t.Perm (u ++ v) ∧ Srt.Sorted cmpEl t ∧ Row w0 blk (P ++ (t ++ S)) w3) := ⟨t1 ++ t2, HY.out.perm y1 z1, HY.out.sorted y1 z1 y2 z2, by simpa using z3⟩
                clear y1 y2 y3 y4 z1 z2 z3
                go_wp2_with fail
                go_end0
                exact ⟨rfl, H3.out⟩
              · have H3 : Hid (∃ t, t.Perm (u ++ v) ∧ Srt.Sorted cmpEl t ∧ Row w0 blk (P ++ (t ++ S)) w1) := Lib.hid (by
                  obtain ⟨t1, y1, y2, y3⟩ := H2.out
                  exact ⟨t1 ++ (u2 ++ v2), HY.out.perm y1 (List.Perm.refl _), HY.out.sorted y1 (List.Perm.refl _) y2 (HY.out.right_done hri), by simpa using y3⟩)
                by_cases hr1 : mid < e
                · have hr2 : ¬ e < b := fun h => hri ⟨hr1, h⟩
                  have dx1 : (mid : Int) < (e : Int) := by omega
                  have dx2 : ¬ (e : Int) < (b : Int) := by omega
                  go_wp2_with fail
                  go_end0
                  exact ⟨rfl, H3.out⟩
                · have dx1 : ¬ (mid : Int) < (e : Int) := by omega
                  go_wp2_with fail
                  go_end0
                  exact ⟨rfl, H3.out⟩
        · have H1 : Hid (Row w0 blk (P ++ (u1 ++ (v1 ++ (u2 ++ (v2 ++ S))))) wr) := Lib.hid (HY.out.unmoved HXS.out hro (HR0.out.below HB.out))
          by_cases ho1 : s < m
          · have ho2 : ¬ m < e := fun h => hro ⟨ho1, h⟩
            have dz1 : (s : Int) < (m : Int) := by omega
            have dz2 : ¬ (m : Int) < (e : Int) := by omega
            clear hro
            by_cases hle : a < s ∧ s < mid
            · obtain ⟨hl1, hl2⟩ := hle
              have dy1 : (a : Int) < (s : Int) := by omega
              have dy2 : (s : Int) < (mid : Int) := by omega
              go_wp2_with fail
              rw [← HLEN.out]
              refine (IH.out cap a s mid _ P u1 v1 (u2 ++ (v2 ++ S)) _ (by omega) H1.out rfl HY.out.l0 HY.out.l4 HY.out.l5 hl1 hl2 (by rw [HLEN.out]; exact hn) HY.out.su.left HY.out.sv.left HY.out.g1 HY.out.g3).mono ?_
              rintro _ w2 ⟨rfl, t1, x1, x2, x3⟩
              have H2 : Hid (∃ t1, t1.Perm (u1 ++ v1) ∧ Srt.Sorted cmpEl t1 ∧ Row w0 blk (P ++ (t1 ++ (u2 ++ (v2 ++ S)))) w2) := ⟨t1, x1, x2, x3⟩
              clear x1 x2 x3 dy1 dy2 H1
              rw [HLEN.out]
              by_cases hri : mid < e ∧ e < b
              · obtain ⟨hr1, hr2⟩ := hri
                have dx1 : (mid : Int) < (e : Int) := by omega
                have dx2 : (e : Int) < (b : Int) := by omega
                go_wp2_with fail
                obtain ⟨t1, y1, y2, y3⟩ := H2.out
                have y4 := HY.out.len1 y1
                have y5 : xs.length = (P ++ (t1 ++ (u2 ++ (v2 ++ S)))).length := by rw [← HLEN.out]; have := y1.length_eq; simp at this ⊢; omega
                rw [y5]
                refine (IH.out cap mid e b _ (P ++ t1) u2 v2 S _ (by omega) y3 (by simp) y4 HY.out.l6 HY.out.l7 hr1 hr2 (by rw [← y5]; exact hn) HY.out.su.right HY.out.sv.right HY.out.g2 HY.out.g4).mono ?_
                rintro _ w3 ⟨rfl, t2, z1, z2, z3⟩
                have H3 : Hid (∃ t, t.Perm (u ++ v) ∧ Srt.Sorted cmpEl t ∧ Row w0 blk (P ++ (t ++ S)) w3) := ⟨t1 ++ t2, HY.out.perm y1 z1, HY.out.sorted y1 z1 y2 z2, by simpa using z3⟩
                clear y1 y2 y3 y4 z1 z2 z3
                go_wp2_with fail
                go_end0
                exact ⟨rfl, H3.out⟩
              · have H3 : Hid (∃ t, t.Perm (u ++ v) ∧ Srt.Sorted cmpEl t ∧ Row w0 blk (P ++ (t ++ S)) w2) := Lib.hid (by
                  obtain ⟨t1, y1, y2, y3⟩ := H2.out
                  exact ⟨t1 ++ (u2 ++ v2), HY.out.perm y1 (List.Perm.refl _), HY.out.sorted y1 (List.Perm.refl _) y2 (HY.out.right_done hri), by simpa using y3⟩)
                by_cases hr1 : mid < e
                · have hr2 : ¬ e < b := fun h => hri ⟨hr1, h⟩
                  have dx1 : (mid : Int) < (e : Int) := by omega
                  have dx2 : ¬ (e : Int) < (b : Int) := by omega
                  go_wp2_with fail
                  go_end0
                  exact ⟨rfl, H3.out⟩
                · have dx1 : ¬ (mid : Int) < (e : Int) := by omega
                  go_wp2_with fail
                  go_end0
                  exact ⟨rfl, H3.out⟩
            · have H2 : Hid (∃ t1, t1.Perm (u1 ++ v1) ∧ Srt.Sorted cmpEl t1 ∧ Row w0 blk (P ++ (t1 ++ (u2 ++ (v2 ++ S)))) wr) := ⟨u1 ++ v1, List.Perm.refl _, HY.out.left_done hle, by have := H1.out; simpa using this⟩
              clear H1
              by_cases hl1 : a < s
              · have hl2 : ¬ s < mid := fun h => hle ⟨hl1, h⟩
                have dy1 : (a : Int) < (s : Int) := by omega
                have dy2 : ¬ (s : Int) < (mid : Int) := by omega
                clear hle
                by_cases hri : mid < e ∧ e < b
                · obtain ⟨hr1, hr2⟩ := hri
                  have dx1 : (mid : Int) < (e : Int) := by omega
                  have dx2 : (e : Int) < (b : Int) := by omega
                  go_wp2_with fail
                  obtain ⟨t1, y1, y2, y3⟩ := H2.out
                  have y4 := HY.out.len1 y1
                  have y5 : xs.length = (P ++ (t1 ++ (u2 ++ (v2 ++ S)))).length := by rw [← HLEN.out]; have := y1.length_eq; simp at this ⊢; omega
                  rw [y5]
                  refine (IH.out cap mid e b _ (P ++ t1) u2 v2 S _ (by omega) y3 (by simp) y4 HY.out.l6 HY.out.l7 hr1 hr2 (by rw [← y5]; exact hn) HY.out.su.right HY.out.sv.right HY.out.g2 HY.out.g4).mono ?_
                  rintro _ w3 ⟨rfl, t2, z1, z2, z3⟩
                  have H3 : Hid (∃ t, t.Perm (u ++ v) ∧ Srt.Sorted cmpEl t ∧ Row w0 blk (P ++ (t ++ S)) w3) := ⟨t1 ++ t2, HY.out.perm y1 z1, HY.out.sorted y1 z1 y2 z2, by simpa using z3⟩
                  clear y1 y2 y3 y4 z1 z2 z3
                  go_wp2_with fail
                  go_end0
                  exact ⟨rfl, H3.out⟩
                · have H3 : Hid (∃ t, t.Perm (u ++ v) ∧ Srt.Sorted cmpEl t ∧ Row w0 blk (P ++ (t ++ S)) wr) := Lib.hid (by
                    obtain ⟨t1, y1, y2, y3⟩ := H2.out
                    exact ⟨t1 ++ (u2 ++ v2), HY.out.perm y1 (List.Perm.refl _), HY.out.sorted y1 (List.Perm.refl _) y2 (HY.out.right_done hri), by simpa using y3⟩)
                  by_cases hr1 : mid < e
                  · have hr2 : ¬ e < b := fun h => hri ⟨hr1, h⟩
                    have dx1 : (mid : Int) < (e : Int) := by omega
                    have dx2 : ¬ (e : Int) < (b : Int) := by omega
                    go_wp2_with fail
                    go_end0
                    exact ⟨rfl, H3.out⟩
                  · have dx1 : ¬ (mid : Int) < (e : Int) := by omega
                    go_wp2_with fail
                    go_end0
                    exact ⟨rfl, H3.out⟩
              · have dy1 : ¬ (a : Int) < (s : Int) := by omega
                clear hle
                by_cases hri : mid < e ∧ e < b
                · obtain ⟨hr1, hr2⟩ := hri
                  have dx1 : (mid : Int) < (e : Int) := by omega
                  have dx2 : (e : Int) < (b : Int) := by omega
                  go_wp2_with fail
                  obtain ⟨t1, y1, y2, y3⟩ := H2.out
                  have y4 := HY.out.len1 y1
                  have y5 : xs.length = (P ++ (t1 ++ (u2 ++ (v2 ++ S)))).length := by rw [← HLEN.out]; have := y1.length_eq; simp at this ⊢; omega
                  rw [y5]
                  refine (IH.out cap mid e b _ (P ++ t1) u2 v2 S _ (by omega) y3 (by simp) y4 HY.out.l6 HY.out.l7 hr1 hr2 (by rw [← y5]; exact hn) HY.out.su.right HY.out.sv.right HY.out.g2 HY.out.g4).mono ?_
                  rintro _ w3 ⟨rfl, t2, z1, z2, z3⟩
                  have H3 : Hid (∃ t, t.Perm (u ++ v) ∧ Srt.Sorted cmpEl t ∧ Row w0 blk (P ++ (t ++ S)) w3) := ⟨t1 ++ t2, HY.out.perm y1 z1, HY.out.sorted y1 z1 y2 z2, by simpa using z3⟩
                  clear y1 y2 y3 y4 z1 z2 z3
                  go_wp2_with fail
                  go_end0
                  exact ⟨rfl, H3.out⟩
                · have H3 : Hid (∃ t, t.Perm (u ++ v) ∧ Srt.Sorted cmpEl t ∧ Row w0 blk (P ++ (t ++ S)) wr) := Lib.hid (by
                    obtain ⟨t1, y1, y2, y3⟩ := H2.out
                    exact ⟨t1 ++ (u2 ++ v2), HY.out.perm y1 (List.Perm.refl _), HY.out.sorted y1 (List.Perm.refl _) y2 (HY.out.right_done hri), by simpa using y3⟩)
                  by_cases hr1 : mid < e
                  · have hr2 : ¬ e < b := fun h => hri ⟨hr1, h⟩
                    have dx1 : (mid : Int) < (e : Int) := by omega
                    have dx2 : ¬ (e : Int) < (b : Int) := by omega
                    go_wp2_with fail
                    go_end0
                    exact ⟨rfl, H3.out⟩
                  · have dx1 : ¬ (mid : Int) < (e : Int) := by omega
                    go_wp2_with fail
                    go_end0
                    exact ⟨rfl, H3.out⟩
          · have dz1 : ¬ (s : Int) < (m : Int) := by omega
            clear hro
            by_cases hle : a < s ∧ s < mid
            · obtain ⟨hl1, hl2⟩ := hle
              have dy1 : (a : Int) < (s : Int) := by omega
              have dy2 : (s : Int) < (mid : Int) := by omega
              go_wp2_with fail
              rw [← HLEN.out]
              refine (IH.out cap a s mid _ P u1 v1 (u2 ++ (v2 ++ S)) _ (by omega) H1.out rfl HY.out.l0 HY.out.l4 HY.out.l5 hl1 hl2 (by rw [HLEN.out]; exact hn) HY.out.su.left HY.out.sv.left HY.out.g1 HY.out.g3).mono ?_
              rintro _ w2 ⟨rfl, t1, x1, x2, x3⟩
              have H2 : Hid (∃ t1, t1.Perm (u1 ++ v1) ∧ Srt.Sorted cmpEl t1 ∧ Row w0 blk (P ++ (t1 ++ (u2 ++ (v2 ++ S)))) w2) := ⟨t1, x1, x2, x3⟩
              clear x1 x2 x3 dy1 dy2 H1
              rw [HLEN.out]
              by_cases hri : mid < e ∧ e < b
              · obtain ⟨hr1, hr2⟩ := hri
                have dx1 : (mid : Int) < (e : Int) := by omega
                have dx2 : (e : Int) < (b : Int) := by omega
                go_wp2_with fail
                obtain ⟨t1, y1, y2, y3⟩ := H2.out
                have y4 := HY.out.len1 y1
                have y5 : xs.length = (P ++ (t1 ++ (u2 ++ (v2 ++ S)))).length := by rw [← HLEN.out]; have := y1.length_eq; simp at this ⊢; omega
                rw [y5]
                refine (IH.out cap mid e b _ (P ++ t1) u2 v2 S _ (by omega) y3 (by simp) y4 HY.out.l6 HY.out.l7 hr1 hr2 (by rw [← y5]; exact hn) HY.out.su.right HY.out.sv.right HY.out.g2 HY.out.g4).mono ?_
                rintro _ w3 ⟨rfl, t2, z1, z2, z3⟩
                have H3 : Hid (∃ t, t.Perm (u ++ v) ∧ Srt.Sorted cmpEl t ∧ Row w0 blk (P ++ (t ++ S)) w3) := ⟨t1 ++ t2, HY.out.perm y1 z1, HY.out.sorted y1 z1 y2 z2, by simpa using z3⟩
                clear y1 y2 y3 y4 z1 z2 z3
                go_wp2_with fail
                go_end0
                exact ⟨rfl, H3.out⟩
              · have H3 : Hid (∃ t, t.Perm (u ++ v) ∧ Srt.Sorted cmpEl t ∧ Row w0 blk (P ++ (t ++ S)) w2) := Lib.hid (by
                  obtain ⟨t1, y1, y2, y3⟩ := H2.out
                  exact ⟨t1 ++ (u2 ++ v2), HY.out.perm y1 (List.Perm.refl _), HY.out.sorted y1 (List.Perm.refl _) y2 (HY.out.right_done hri), by simpa using y3⟩)
                by_cases hr1 : mid < e
                · have hr2 : ¬ e < b := fun h => hri ⟨hr1, h⟩
                  have dx1 : (mid : Int) < (e : Int) := by omega
                  have dx2 : ¬ (e : Int) < (b : Int) := by omega
                  go_wp2_with fail
                  go_end0
                  exact ⟨rfl, H3.out⟩
                · have dx1 : ¬ (mid : Int) < (e : Int) := by omega
                  go_wp2_with fail
                  go_end0
                  exact ⟨rfl, H3.out⟩
            · have H2 : Hid (∃ t1, t1.Perm (u1 ++ v1) ∧ Srt.Sorted cmpEl t1 ∧ Row w0 blk (P ++ (t1 ++ (u2 ++ (v2 ++ S)))) wr) := ⟨u1 ++ v1, List.Perm.refl _, HY.out.left_done hle, by have := H1.out; simpa using this⟩
              clear H1
              by_cases hl1 : a < s
              · have hl2 : ¬ s < mid := fun h => hle ⟨hl1, h⟩
                have dy1 : (a : Int) < (s : Int) := by omega
                have dy2 : ¬ (s : Int) < (mid : Int) := by omega
                clear hle
                by_cases hri : mid < e ∧ e < b
                · obtain ⟨hr1, hr2⟩ := hri
                  have dx1 : (mid : Int) < (e : Int) := by omega
                  have dx2 : (e : Int) < (b : Int) := by omega
                  go_wp2_with fail
                  obtain ⟨t1, y1, y2, y3⟩ := H2.out
                  have y4 := HY.out.len1 y1
                  have y5 : xs.length = (P ++ (t1 ++ (u2 ++ (v2 ++ S)))).length := by rw [← HLEN.out]; have := y1.length_eq; simp at this ⊢; omega
                  rw [y5]
                  refine (IH.out cap mid e b _ (P ++ t1) u2 v2 S _ (by omega) y3 (by simp) y4 HY.out.l6 HY.out.l7 hr1 hr2 (by rw [← y5]; exact hn) HY.out.su.right HY.out.sv.right HY.out.g2 HY.out.g4).mono ?_
                  rintro _ w3 ⟨rfl, t2, z1, z2, z3⟩
                  have H3 : Hid (∃ t, t.Perm (u ++ v) ∧ Srt.Sorted cmpEl t ∧ Row w0 blk (P ++ (t ++ S)) w3) := ⟨t1 ++ t2, HY.out.perm y1 z1, HY.out.sorted y1 z1 y2 z2, by simpa using z3⟩
                  clear y1 y2 y3 y4 z1 z2 z3
                  go_wp2_with fail
                  go_end0
                  exact ⟨rfl, H3.out⟩
                · have H3 : Hid (∃ t, t.Perm (u ++ v) ∧ Srt.Sorted cmpEl t ∧ Row w0 blk (P ++ (t ++ S)) wr) := Lib.hid (by
                    obtain ⟨t1, y1, y2, y3⟩ := H2.out
                    exact ⟨t1 ++ (u2 ++ v2), HY.out.perm y1 (List.Perm.refl _), HY.out.sorted y1 (List.Perm.refl _) y2 (HY.out.right_done hri), by simpa using y3⟩)
                  by_cases hr1 : mid < e
                  · have hr2 : ¬ e < b := fun h => hri ⟨hr1, h⟩
                    have dx1 : (mid : Int) < (e : Int) := by omega
                    have dx2 : ¬ (e : Int) < (b : Int) := by omega
                    go_wp2_with fail
                    go_end0
                    exact ⟨rfl, H3.out⟩
                  · have dx1 : ¬ (mid : Int) < (e : Int) := by omega
                    go_wp2_with fail
                    go_end0
                    exact ⟨rfl, H3.out⟩
              · have dy1 : ¬ (a : Int) < (s : Int) := by omega
                clear hle
                by_cases hri : mid < e ∧ e < b
                · obtain ⟨hr1, hr2⟩ := hri
                  have dx1 : (mid : Int) < (e : Int) := by omega
                  have dx2 : (e : Int) < (b : Int) := by omega
                  go_wp2_with fail
                  obtain ⟨t1, y1, y2, y3⟩ := H2.out
                  have y4 := HY.out.len1 y1
                  have y5 : xs.length = (P ++ (t1 ++ (u2 ++ (v2 ++ S)))).length := by rw [← HLEN.out]; have := y1.length_eq; simp at this ⊢; omega
                  rw [y5]
                  refine (IH.out cap mid e b _ (P ++ t1) u2 v2 S _ (by omega) y3 (by simp) y4 HY.out.l6 HY.out.l7 hr1 hr2 (by rw [← y5]; exact hn) HY.out.su.right HY.out.sv.right HY.out.g2 HY.out.g4).mono ?_
                  rintro _ w3 ⟨rfl, t2, z1, z2, z3⟩
                  have H3 : Hid (∃ t, t.Perm (u ++ v) ∧ Srt.Sorted cmpEl t ∧ Row w0 blk (P ++ (t ++ S)) w3) := ⟨t1 ++ t2, HY.out.perm y1 z1, HY.out.sorted y1 z1 y2 z2, by simpa using z3⟩
                  clear y1 y2 y3 y4 z1 z2 z3
                  go_wp2_with fail
                  go_end0
                  exact ⟨rfl, H3.out⟩
                · have H3 : Hid (∃ t, t.Perm (u ++ v) ∧ Srt.Sorted cmpEl t ∧ Row w0 blk (P ++ (t ++ S)) wr) := Lib.hid (by
                    obtain ⟨t1, y1, y2, y3⟩ := H2.out
                    exact ⟨t1 ++ (u2 ++ v2), HY.out.perm y1 (List.Perm.refl _), HY.out.sorted y1 (List.Perm.refl _) y2 (HY.out.right_done hri), by simpa using y3⟩)
                  by_cases hr1 : mid < e
                  · have hr2 : ¬ e < b := fun h => hri ⟨hr1, h⟩
                    have dx1 : (mid : Int) < (e : Int) := by omega
                    have dx2 : ¬ (e : Int) < (b : Int) := by omega
                    go_wp2_with fail
                    go_end0
                    exact ⟨rfl, H3.out⟩
                  · have dx1 : ¬ (mid : Int) < (e : Int) := by omega
                    go_wp2_with fail
                    go_end0
                    exact ⟨rfl, H3.out⟩
theorem symMerge_any (w0 : World) (blk : Nat) : ∀ d, SymOk w0 blk d
  | 0 => fun cap a m b xs P u v S w hd R hx hP hu hv h1 h2 hn su sv gu gv => by omega
  | d + 1 => fun cap a m b xs P u v S w hd R hx hP hu hv h1 h2 hn su sv gu gv => by
    by_cases c1 : u.length = 1
    · obtain ⟨x, rfl⟩ := List.length_eq_one_iff.1 c1
      exact symMerge_left blk cap a m b xs P v S x w0 w R (by simpa using hx) hP (by simp at hu; omega) (by simp at hu; omega) (by omega) hn sv (gu x (by simp)) gv
    · by_cases c2 : v.length = 1
      · obtain ⟨x, rfl⟩ := List.length_eq_one_iff.1 c2
        exact symMerge_right blk cap a m b xs P u S x w0 w R (by simpa using hx) hP hu (by simp at hv; omega) (by omega) hn su (gv x (by simp)) gu
      · exact symMerge_step w0 blk d (symMerge_any w0 blk d) cap a m b xs P u v S w (by omega) R hx hP hu hv (by omega) (by omega) hn su sv gu gv
end Go.Proofs.YtffmeglcakcpdaaDoor
