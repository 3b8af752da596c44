/- Tools for the walks: rows of the arrays, variables made in a region that draws, leaves. -/
import Derived.Test.YtlocnfaeiacphaaGreatDoorCpC
import Derived.Test.YtlocnfaeiacphaaGreatDoorSyG
import Derived.Test.YtlocnfaeiacphaaGreatDoorCpQ
set_option linter.unusedVariables false
set_option linter.unusedSimpArgs false
namespace Go.Proofs.YtlocnfaeiacphaaGreatDoor.Ev
open Go
theorem nd_rowN {ns : List Nd} {j : Nat} (h : j < ns.length) : (ns.map Nd.row)[j]? = some [.int .i64 (nd ns (j : Int)).f, .int .i64 (nd ns (j : Int)).k, .int .i64 (nd ns (j : Int)).i] := by
  rw [nd_nat h]; simp [h, Nd.row]
theorem ed_rowN {ns : List Ed} {j : Nat} (h : j < ns.length) : (ns.map Ed.row)[j]? = some [.int .i64 (ed ns (j : Int)).a, .int .i64 (ed ns (j : Int)).b, .int .i64 (ed ns (j : Int)).k, .int .i64 (ed ns (j : Int)).c] := by
  rw [ed_nat h]; simp [h, Ed.row]
theorem ob_rowN {ns : List Ob} {j : Nat} (h : j < ns.length) : (ns.map Ob.row)[j]? = some [.int .i64 (ob ns (j : Int)).f, .int .i64 (ob ns (j : Int)).i, .int .i64 (ob ns (j : Int)).fr, .int .i64 (ob ns (j : Int)).c, (ob ns (j : Int)).v] := by
  rw [ob_nat h]; simp [h, Ob.row]
theorem nd_row {ns : List Nd} {z : Int} (h0 : 0 ≤ z) (h1 : z < ns.length) : (ns.map Nd.row)[z.toNat]? = some [.int .i64 (nd ns z).f, .int .i64 (nd ns z).k, .int .i64 (nd ns z).i] := by
  have := nd_rowN (ns := ns) (j := z.toNat) (by omega)
  rwa [Int.toNat_of_nonneg h0] at this
theorem ed_row {ns : List Ed} {z : Int} (h0 : 0 ≤ z) (h1 : z < ns.length) : (ns.map Ed.row)[z.toNat]? = some [.int .i64 (ed ns z).a, .int .i64 (ed ns z).b, .int .i64 (ed ns z).k, .int .i64 (ed ns z).c] := by
  have := ed_rowN (ns := ns) (j := z.toNat) (by omega)
  rwa [Int.toNat_of_nonneg h0] at this
theorem ob_row {ns : List Ob} {z : Int} (h0 : 0 ≤ z) (h1 : z < ns.length) : (ns.map Ob.row)[z.toNat]? = some [.int .i64 (ob ns z).f, .int .i64 (ob ns z).i, .int .i64 (ob ns z).fr, .int .i64 (ob ns z).c, (ob ns z).v] := by
  have := ob_rowN (ns := ns) (j := z.toNat) (by omega)
  rwa [Int.toNat_of_nonneg h0] at this
section
variable {P : Program} {X : Exts} {M : Mf} {c : C} {nt : Nat} {env : Env'} {h : H} {Q : Env' → H → Prop} {base : List (Nat × Nat)} {i : Nat} {rs : List (Nat × Nat × Nat)} {bs : List (Nat × Tr AB × Tr AB)} {fs : List (Nat × Nat)}
variable {n d1 d2 p1 p2 p3 p4 : Nat} {x y : XV} {zs zs' row row' : List AV} {v u : AV}
/-- a variable made at the end of a region that draws -/
theorem rd_bs (hnt : nt ≤ 1000000) (hlow : c.floor ≤ h.n) (hn : h.n < 10000000)
    (hsee : evE ((d1, .ptr h.n 0) :: env) (.tmp d1) = some (.ptr h.n 0)) (hx : evE ((d1, .ptr h.n 0) :: env) x = some v) (hc : v.cells = row) (hz : zs.length = n) (hr : row.length = n) (ho : ones row = true) (hb : Nat.testBit p3 i = true)
    (hF : ∀ (h1 h2 : H), (∀ j, j < h.n → h1.get j = h.get j) → (∀ j, j < h.n → h2.get j = h.get j) → unchF p3 h1.t h2.t fs = true)
    (w : ∀ h2, h2.n = h.n + 1 → h2.get h.n = some (.cells row) → Grew h h2 → Q ((d1, .ptr h.n 0) :: env) h2) :
    WO P X M ⟨h.n, [(h.n, big)]⟩ (.box (.const (.agg zs))) env h (fun v h' => WD P X M c nt base [⟨none, .store n (.tmp d1) x, none, p3, true, true, none⟩] (i + 1) (addR i h.n h'.n rs) bs fs ((d1, v) :: env) h' Q) := by
  subst hc
  refine wo_boxA rfl rfl hn fun h1 e1 hb1 g1 => ?_
  refine rd_bar0 hnt rfl (wo_storeA hsee hx hlow (seen_hit hb (Nat.le_refl _) (by omega) (by omega)) hb1 hr ho (by show 0 + n ≤ zs.length; omega) hn (splice_all (by show zs.length = _; omega)) fun h2 e2 hb2 k2 => ⟨hF h1 h2 g1.get (fun j hj => (k2 j (by omega)).trans (g1.get j hj)), wd_nil ?_⟩)
  exact w h2 (by omega) hb2 ⟨by omega, fun j hj => (k2 j (by omega)).trans (g1.get j hj)⟩
/-- two variables made at the end of a region that draws -/
theorem rd_bs2 (hnt : nt ≤ 1000000) (hd2 : Nat.blt d2 nt = true) (hlow : c.floor ≤ h.n) (hn : h.n + 1 < 10000000)
    (hse1 : evE ((d2, .ptr (h.n + 1) 0) :: (d1, .ptr h.n 0) :: env) (.tmp d1) = some (.ptr h.n 0)) (hse2 : evE ((d2, .ptr (h.n + 1) 0) :: (d1, .ptr h.n 0) :: env) (.tmp d2) = some (.ptr (h.n + 1) 0))
    (hx : evE ((d2, .ptr (h.n + 1) 0) :: (d1, .ptr h.n 0) :: env) x = some v) (hy : evE ((d2, .ptr (h.n + 1) 0) :: (d1, .ptr h.n 0) :: env) y = some u) (hc : v.cells = row) (hc' : u.cells = row') (hz : zs.length = n) (hz' : zs'.length = n) (hr : row.length = n) (hr' : row'.length = n) (ho : ones row = true) (ho' : ones row' = true)
    (hb : Nat.testBit p3 i = true) (hb' : Nat.testBit p4 (i + 1) = true)
    (hF : ∀ (p : Nat) (h1 h2 : H), (∀ j, j < h.n → h1.get j = h.get j) → (∀ j, j < h.n → h2.get j = h.get j) → unchF p h1.t h2.t fs = true)
    (w : ∀ h2, h2.n = h.n + 2 → h2.get h.n = some (.cells row) → h2.get (h.n + 1) = some (.cells row') → Grew h h2 → Q ((d2, .ptr (h.n + 1) 0) :: (d1, .ptr h.n 0) :: env) h2) :
    WO P X M ⟨h.n, [(h.n, big)]⟩ (.box (.const (.agg zs))) env h (fun v h' => WD P X M c nt base [⟨some d2, .box (.const (.agg zs')), none, p2, false, false, none⟩, ⟨none, .store n (.tmp d1) x, none, p3, true, true, none⟩, ⟨none, .store n (.tmp d2) y, none, p4, true, true, none⟩] (i + 1) (addR i h.n h'.n rs) bs fs ((d1, v) :: env) h' Q) := by
  subst hc hc'
  refine wo_boxA rfl rfl (by omega) fun h1 e1 hb1 g1 => ?_
  refine rd_pure hnt rfl hd2 (wo_boxA rfl rfl (by omega) fun h2 e2 hb2 g2 => ?_)
  rw [e1] at hb2 ⊢
  have hb1' := (g2.get h.n (by omega)).trans hb1
  have g12 := g1.trans g2
  refine rd_bar0 hnt rfl (wo_storeA hse1 hx hlow (seen_skip (by omega) (seen_hit hb (Nat.le_refl _) (by omega) (by omega)) (by omega)) hb1' hr ho (by show 0 + n ≤ zs.length; omega) (by omega) (splice_all (by show zs.length = _; omega)) fun h3 e3 hb3 k3 => ?_)
  have g3 : ∀ j, j < h.n → h3.get j = h.get j := fun j hj => (k3 j (by omega)).trans (g12.get j hj)
  have hb2' := (k3 (h.n + 1) (by omega)).trans hb2
  refine ⟨hF _ h2 h3 g12.get g3, rd_bar0 hnt rfl (wo_storeA hse2 hy (by show c.floor ≤ _; omega) (seen_skip (by omega) (seen_hit hb' (by omega) (by omega) (by omega)) (by omega)) hb2' hr' ho' (by show 0 + n ≤ zs'.length; omega) hn (splice_all (by show zs'.length = _; omega)) fun h4 e4 hb4 k4 => ?_)⟩
  have g4 : ∀ j, j < h.n → h4.get j = h.get j := fun j hj => (k4 j (by omega)).trans (g3 j hj)
  refine ⟨hF _ h3 h4 g3 g4, wd_nil (w h4 (by omega) ((k4 h.n (by omega)).trans hb3) hb4 ⟨by omega, g4⟩)⟩
end
/-! leaves -/
theorem fitsR_t {ns : List Nd} {e : Ed} : fitsR ns true e = true ↔ ((e.k = 1 ∨ e.k = 5) ∧ (nd ns e.a).f = (nd ns e.b).f ∧ (nd ns e.a).k ≠ 3 ∧ (nd ns e.a).k ≠ 4 ∧ (nd ns e.b).k ≠ 1 ∧ (e.k = 1 ∨ (nd ns e.a).k = 2)) ∨ (e.k = 2 ∧ (nd ns e.a).k = 2 ∧ e.c = e.a ∧ (nd ns e.b).k = 1) ∨
    (e.k ≠ 1 ∧ e.k ≠ 5 ∧ e.k ≠ 2 ∧ ¬ ((e.k = 3 ∧ (nd ns e.a).k ≠ 3) ∨ (e.k = 4 ∧ (nd ns e.a).k ≠ 4)) ∧ (nd ns e.c).k = 2 ∧ (nd ns e.b).f = (nd ns e.c).f ∧ (nd ns e.b).k ≠ 1) := by
  unfold fitsR
  by_cases h1 : e.k = 1 ∨ e.k = 5
  · rw [if_pos h1]; simp only [decide_eq_true_eq]; omega
  · rw [if_neg h1]
    by_cases h2 : e.k = 2
    · rw [if_pos h2]; simp only [decide_eq_true_eq]; omega
    · rw [if_neg h2]
      by_cases h3 : (e.k = 3 ∧ (nd ns e.a).k ≠ 3) ∨ (e.k = 4 ∧ (nd ns e.a).k ≠ 4)
      · rw [if_pos h3]
        constructor
        · intro q; cases q
        · intro q; exfalso; omega
      · rw [if_neg h3]; simp only [decide_eq_true_eq, true_and]; omega
theorem fitsR_f {ns : List Nd} {e : Ed} : fitsR ns false e = true ↔ ((e.k = 1 ∨ e.k = 5) ∧ (nd ns e.a).f = (nd ns e.b).f ∧ (nd ns e.a).k ≠ 3 ∧ (nd ns e.a).k ≠ 4 ∧ (nd ns e.b).k ≠ 1 ∧ (e.k = 1 ∨ (nd ns e.a).k = 2)) ∨ (e.k = 2 ∧ (nd ns e.a).k = 2 ∧ e.c = e.a ∧ (nd ns e.b).k = 1) := by
  unfold fitsR
  by_cases h1 : e.k = 1 ∨ e.k = 5
  · rw [if_pos h1]; simp only [decide_eq_true_eq]; omega
  · rw [if_neg h1]
    by_cases h2 : e.k = 2
    · rw [if_pos h2]; simp only [decide_eq_true_eq]; omega
    · rw [if_neg h2]
      by_cases h3 : (e.k = 3 ∧ (nd ns e.a).k ≠ 3) ∨ (e.k = 4 ∧ (nd ns e.a).k ≠ 4)
      · rw [if_pos h3]
        constructor
        · intro q; cases q
        · intro q; exfalso; omega
      · rw [if_neg h3]; simp only [decide_eq_true_eq, false_and, and_false, Bool.false_eq_true]
        constructor
        · intro q; exact q.elim
        · intro q; exfalso; omega
theorem fitsP_t {ns : List Nd} {e : Ed} : fitsP ns true e = true ↔ (e.k = 1 ∧ (nd ns e.a).f = (nd ns e.b).f ∧ ((nd ns e.a).k = 1 ∨ (nd ns e.a).k = 2) ∧ (nd ns e.b).k ≠ 1) ∨ (e.k = 5 ∧ (nd ns e.a).f = (nd ns e.b).f ∧ (nd ns e.a).k = 2 ∧ (nd ns e.b).k ≠ 1) ∨ (e.k = 2 ∧ (nd ns e.a).k = 2 ∧ e.c = e.a ∧ (nd ns e.b).k = 1) ∨
    (e.k ≠ 1 ∧ e.k ≠ 5 ∧ e.k ≠ 2 ∧ ((e.k = 4 ∧ (nd ns e.a).k = 4) ∨ (e.k ≠ 4 ∧ (nd ns e.a).k = 3)) ∧ (nd ns e.c).k = 2 ∧ (nd ns e.b).f = (nd ns e.c).f ∧ (nd ns e.b).k ≠ 1) := by
  unfold fitsP
  by_cases h1 : e.k = 1
  · rw [if_pos h1]; simp only [decide_eq_true_eq]; omega
  · rw [if_neg h1]
    by_cases h5 : e.k = 5
    · rw [if_pos h5]; simp only [decide_eq_true_eq]; omega
    · rw [if_neg h5]
      by_cases h2 : e.k = 2
      · rw [if_pos h2]; simp only [decide_eq_true_eq]; omega
      · rw [if_neg h2]; simp only [decide_eq_true_eq, true_and]
        by_cases h4 : e.k = 4
        · rw [if_pos h4]; omega
        · rw [if_neg h4]; omega
theorem fitsP_f {ns : List Nd} {e : Ed} : fitsP ns false e = true ↔ (e.k = 1 ∧ (nd ns e.a).f = (nd ns e.b).f ∧ ((nd ns e.a).k = 1 ∨ (nd ns e.a).k = 2) ∧ (nd ns e.b).k ≠ 1) ∨ (e.k = 5 ∧ (nd ns e.a).f = (nd ns e.b).f ∧ (nd ns e.a).k = 2 ∧ (nd ns e.b).k ≠ 1) ∨ (e.k = 2 ∧ (nd ns e.a).k = 2 ∧ e.c = e.a ∧ (nd ns e.b).k = 1) := by
  unfold fitsP
  by_cases h1 : e.k = 1
  · rw [if_pos h1]; simp only [decide_eq_true_eq]; omega
  · rw [if_neg h1]
    by_cases h5 : e.k = 5
    · rw [if_pos h5]; simp only [decide_eq_true_eq]; omega
    · rw [if_neg h5]
      by_cases h2 : e.k = 2
      · rw [if_pos h2]; simp only [decide_eq_true_eq]; omega
      · rw [if_neg h2]; simp only [decide_eq_true_eq, false_and, and_false, Bool.false_eq_true]
        constructor
        · intro q; exact q.elim
        · intro q; exfalso; omega
theorem badE_in {m : Int} {e : Ed} (h : badE m e = 0) : 0 ≤ e.a ∧ e.a < m ∧ 0 ≤ e.b ∧ e.b < m ∧ 1 ≤ e.k ∧ e.k ≤ 5 ∧ (e.k ≠ 1 → e.k ≠ 5 → 0 ≤ e.c ∧ e.c < m) := by
  unfold badE at h
  by_cases h1 : e.a < 0 ∨ m ≤ e.a ∨ e.b < 0 ∨ m ≤ e.b
  · rw [if_pos h1] at h; omega
  · rw [if_neg h1] at h
    by_cases h2 : e.k < 1 ∨ 5 < e.k
    · rw [if_pos h2] at h; omega
    · rw [if_neg h2] at h
      by_cases h3 : e.k = 1 ∨ e.k = 5
      · refine ⟨by omega, by omega, by omega, by omega, by omega, by omega, fun a b => by omega⟩
      · rw [if_neg h3] at h
        by_cases h4 : e.c < 0 ∨ m ≤ e.c
        · rw [if_pos h4] at h; omega
        · exact ⟨by omega, by omega, by omega, by omega, by omega, by omega, fun a b => by omega⟩
theorem badE_of {m : Int} {e : Ed} {v : Int} (h : (v = 4 ∧ (e.a < 0 ∨ m ≤ e.a ∨ e.b < 0 ∨ m ≤ e.b)) ∨ (¬ (e.a < 0 ∨ m ≤ e.a ∨ e.b < 0 ∨ m ≤ e.b) ∧ ((v = 12 ∧ (e.k < 1 ∨ 5 < e.k)) ∨ (¬ (e.k < 1 ∨ 5 < e.k) ∧ (((e.k = 1 ∨ e.k = 5) ∧ ((e.c = -1 ∧ v = 0) ∨ (e.c ≠ -1 ∧ v = 4))) ∨ (¬ (e.k = 1 ∨ e.k = 5) ∧ (((e.c < 0 ∨ m ≤ e.c) ∧ v = 4) ∨ (¬ (e.c < 0 ∨ m ≤ e.c) ∧ v = 0)))))))) : badE m e = v := by
  unfold badE
  by_cases h1 : e.a < 0 ∨ m ≤ e.a ∨ e.b < 0 ∨ m ≤ e.b
  · rw [if_pos h1]; omega
  · rw [if_neg h1]
    by_cases h2 : e.k < 1 ∨ 5 < e.k
    · rw [if_pos h2]; omega
    · rw [if_neg h2]
      by_cases h3 : e.k = 1 ∨ e.k = 5
      · rw [if_pos h3]; split <;> omega
      · rw [if_neg h3]
        by_cases h4 : e.c < 0 ∨ m ≤ e.c
        · rw [if_pos h4]; omega
        · rw [if_neg h4]; omega
theorem badN_of {n : Nd} {v : Int} (h : (v = 12 ∧ (n.k < 1 ∨ 4 < n.k)) ∨ (¬ (n.k < 1 ∨ 4 < n.k) ∧ ((v = 4 ∧ (n.f < 0 ∨ (n.k = 2 ∧ n.i < 0) ∨ (n.k ≠ 2 ∧ n.i ≠ -1))) ∨ (v = 0 ∧ ¬ (n.f < 0 ∨ (n.k = 2 ∧ n.i < 0) ∨ (n.k ≠ 2 ∧ n.i ≠ -1)))))) : badN n = v := by
  unfold badN
  by_cases h1 : n.k < 1 ∨ 4 < n.k
  · rw [if_pos h1]; omega
  · rw [if_neg h1]
    by_cases h2 : n.f < 0 ∨ (n.k = 2 ∧ n.i < 0) ∨ (n.k ≠ 2 ∧ n.i ≠ -1)
    · rw [if_pos h2]; omega
    · rw [if_neg h2]; omega
theorem errN_bad {ns : List Nd} {j : Nat} {v : Int} (hj : j < ns.length) (hv : v ≠ 0) (hb : badN (nd ns j) = v) : errN ns j = v := by
  rw [nd_nat hj] at hb
  rw [errN, dif_pos hj, if_pos (by rw [hb]; exact hv), hb]
theorem errN_13 {ns : List Nd} {j : Nat} (hj : j < ns.length) (hb : badN (nd ns j) = 0) (h0 : 0 < j) (hl : lessN (nd ns ((j : Int) - 1)) (nd ns j) = false) : errN ns j = 13 := by
  have e : ((j : Int) - 1) = ((j - 1 : Nat) : Int) := by omega
  rw [e, nd_nat hj, nd_nat (by omega : j - 1 < ns.length)] at hl
  rw [nd_nat hj] at hb
  rw [errN, dif_pos hj, if_neg (by rw [hb]; simp), dif_pos h0, if_neg (by rw [hl]; simp)]
theorem errN_go {ns : List Nd} {j : Nat} (hj : j < ns.length) (hb : badN (nd ns j) = 0) (hl : 0 < j → lessN (nd ns ((j : Int) - 1)) (nd ns j) = true) : errN ns j = errN ns (j + 1) := by
  rw [nd_nat hj] at hb
  rw [errN.eq_1 ns j, dif_pos hj, if_neg (by rw [hb]; simp)]
  by_cases h0 : 0 < j
  · have hl := hl h0
    have e : ((j : Int) - 1) = ((j - 1 : Nat) : Int) := by omega
    rw [e, nd_nat hj, nd_nat (by omega : j - 1 < ns.length)] at hl
    rw [dif_pos h0, if_pos hl]
  · rw [dif_neg h0]
theorem errN_done {ns : List Nd} {j : Nat} (hj : ¬ j < ns.length) : errN ns j = 0 := by rw [errN, dif_neg hj]
theorem errNs_bad {ns : List Nd} {mn v : Int} (h : errN ns 0 = v) (hv : v ≠ 0) : errNs ns mn = v := by
  unfold errNs; rw [if_pos (by rw [h]; exact hv), h]
theorem errNs_1 {ns : List Nd} {mn : Int} (h : errN ns 0 = 0) (h3 : threeR ns = false) : errNs ns mn = 1 := by
  unfold errNs; rw [if_neg (by rw [h]; simp), if_pos h3]
theorem errNs_14 {ns : List Nd} {mn : Int} (h : errN ns 0 = 0) (h3 : threeR ns = true) (hm : mn < 0 ∨ (ns.length : Int) ≤ mn ∨ (nd ns mn).k ≠ 1) : errNs ns mn = 14 := by
  unfold errNs; rw [if_neg (by rw [h]; simp), if_neg (by rw [h3]; simp), if_pos hm]
theorem errNs_0 {ns : List Nd} {mn : Int} (h : errN ns 0 = 0) (h3 : threeR ns = true) (hm : ¬ (mn < 0 ∨ (ns.length : Int) ≤ mn ∨ (nd ns mn).k ≠ 1)) : errNs ns mn = 0 := by
  unfold errNs; rw [if_neg (by rw [h]; simp), if_neg (by rw [h3]; simp), if_neg hm]
section
variable {m : Int} {fit : Ed → Bool} {es : List Ed} {j : Nat}
theorem errE_bad {v : Int} (hj : j < es.length) (hv : v ≠ 0) (hb : badE m (ed es j) = v) : errE m fit es j = v := by
  rw [errE, dif_pos hj, if_pos (by rw [hb]; exact hv), hb]
theorem errE_13 (hj : j < es.length) (hb : badE m (ed es j) = 0) (h0 : 0 < j) (hl : lessE (ed es ((j : Int) - 1)) (ed es j) = false) : errE m fit es j = 13 := by
  rw [errE, dif_pos hj, if_neg (by rw [hb]; simp), if_pos ⟨h0, hl⟩]
theorem errE_20 (hj : j < es.length) (hb : badE m (ed es j) = 0) (hl : 0 < j → lessE (ed es ((j : Int) - 1)) (ed es j) = true) (hf : fit (ed es j) = false) : errE m fit es j = 20 := by
  rw [errE, dif_pos hj, if_neg (by rw [hb]; simp), if_neg (by rintro ⟨a, b⟩; rw [hl a] at b; cases b), if_pos hf]
theorem errE_go (hj : j < es.length) (hb : badE m (ed es j) = 0) (hl : 0 < j → lessE (ed es ((j : Int) - 1)) (ed es j) = true) (hf : fit (ed es j) = true) : errE m fit es j = errE m fit es (j + 1) := by
  rw [errE.eq_1 m fit es j, dif_pos hj, if_neg (by rw [hb]; simp), if_neg (by rintro ⟨a, b⟩; rw [hl a] at b; cases b), if_neg (by rw [hf]; simp)]
theorem errE_done (hj : ¬ j < es.length) : errE m fit es j = 0 := by rw [errE, dif_neg hj]
end
theorem errR_bad {ns : List Nd} {es : List Ed} {mn v : Int} (h : errNs ns mn = v) (hv : v ≠ 0) : errR ns es mn = v := by
  unfold errR; rw [if_pos (by rw [h]; exact hv), h]
theorem errR_go {ns : List Nd} {es : List Ed} {mn : Int} (h : errNs ns mn = 0) : errR ns es mn = errE ns.length (fun e => fitsR ns (callsR ns es e.c (nd ns e.a).f) e) es 0 := by
  unfold errR; rw [if_neg (by rw [h]; simp)]
theorem any_drop {α : Type} {p : α → Bool} {l : List α} {j : Nat} (h : j < l.length) : (l.drop j).any p = (p l[j] || (l.drop (j + 1)).any p) := by rw [List.drop_eq_getElem_cons h, List.any_cons]
theorem all_drop {α : Type} {p : α → Bool} {l : List α} {j : Nat} (h : j < l.length) : (l.drop j).all p = (p l[j] && (l.drop (j + 1)).all p) := by rw [List.drop_eq_getElem_cons h, List.all_cons]
end Go.Proofs.YtlocnfaeiacphaaGreatDoor.Ev
