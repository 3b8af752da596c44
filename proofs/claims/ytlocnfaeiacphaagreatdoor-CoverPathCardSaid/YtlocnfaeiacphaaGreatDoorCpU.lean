/- Tools for the walks: cuts, lists of numbers and frames, maps with an answer said. -/
import Derived.Test.YtlocnfaeiacphaaGreatDoorCpT
set_option linter.unusedVariables false
set_option linter.unusedSimpArgs false
namespace Go.Proofs.YtlocnfaeiacphaaGreatDoor.Ev
open Go
/-- what the first part of a text must leave -/
def midQ {ι : Type} (E : ι → Env') (R : ι → H → Prop) (Q : Ex → Env' → H → Prop) : Ex → Env' → H → Prop := fun e env h => match e with
  | .normal => ∃ i, Sub' (E i) env ∧ R i h
  | e => Q e env h
section
variable {P : Program} {X : Exts} {M : Mf} {c : C} {nt : Nat} {env : Env'} {h : H} {K : AV → H → Prop}
theorem wc_seqM {ι : Type} {A B : SC} {Q : Ex → Env' → H → Prop} (E : ι → Env') (R : ι → H → Prop) (wa : WC P X M c nt A env h (midQ E R Q)) (wb : ∀ i h', R i h' → WC P X M c nt B (E i) h' Q) : WC P X M c nt (.seq A B) env h Q :=
  wc_seq (wa.mono fun e env' h' q => by
    cases e with
    | normal => obtain ⟨i, q1, q2⟩ := q; exact then_go ((wb i h' q2).less q1)
    | exit id => exact then_exit q
    | ret => exact then_ret q)
theorem wo_look {κ : Type} [DecidableEq κ] {ky : κ → AV} {q : SQ} {z v : AV} {x key : XV} {ok : Bool} {a : κ} {id : Nat} {f : κ → Option AV} (m : Mp ky h id f) (hq : ∀ a b, q.den (ky a) (ky b) = some (decide (a = b))) (hx : evE env x = some (.mp id)) (hkey : evE env key = some (ky a)) (hs : seen c.vis id = true) (hv : lookM ok z (f a) = v) (hk : K v h) : WO P X M c (.lookup q z x key ok) env h K :=
  wo_lookupM m hq hx hkey hs (by rw [hv]; exact hk)
end
theorem wo_loadArrE {P : Program} {X : Exts} {M : Mf} {c : C} {env : Env'} {h : H} {K : AV → H → Prop} {x : XV} {sv : AV} {id j : Nat} {rows : List (List AV)} {v : AV} (hA : Arr h sv 1 rows id) (hx : evE env x = some (.ptr id (0 + j * 1))) (hs : seen c.vis id = true) (hj : rows[j]? = some [v]) (hk : K v h) : WO P X M c (.load1 x) env h K :=
  wo_loadArr1 (o := 0) hA hx hs hj rfl hk
theorem Arr.mkN {h : H} {esz id n : Nat} {cap : Option Nat} {rows : List (List AV)} {vs : List AV} (hn : rows.length = n) (hp : 0 < n) (hlt : id < h.n) (hg : h.get id = some (.cells vs)) (hv : vs = rows.flatten) (hl : ∀ row ∈ rows, row.length = esz) : Arr h (.sl id 0 n esz cap) esz rows id := by
  subst hn
  exact Arr.mk' hp hlt hg hv hl
def kI (a : Int) : AV := .int .i64 a
def kP (a : Int × Int) : AV := .agg [.int .i64 a.1, .int .i64 a.2]
def kN (a : Nd) : AV := .agg [.int .i64 a.f, .int .i64 a.k, .int .i64 a.i]
def kE (a : Ed) : AV := .agg [.int .i64 a.a, .int .i64 a.b, .int .i64 a.k, .int .i64 a.c]
theorem qI (a b : Int) : SQ.den (.b .int) (kI a) (kI b) = some (decide (a = b)) := by
  show eqInt (.int .i64 a) (.int .i64 b) = _
  exact eqInt_dec .i64 a b
theorem qP (a b : Int × Int) : SQ.den (.st [.int, .int]) (kP a) (kP b) = some (decide (a = b)) := by
  have e := eqFs_ints [a.1, a.2] [b.1, b.2] rfl
  refine Eq.trans e (congrArg some ?_)
  rw [Bool.eq_iff_iff]
  simp [Prod.ext_iff]
theorem qN (a b : Nd) : SQ.den (.st [.int, .int, .int]) (kN a) (kN b) = some (decide (a = b)) := by
  have e := eqFs_ints [a.f, a.k, a.i] [b.f, b.k, b.i] rfl
  refine Eq.trans e (congrArg some ?_)
  rw [Bool.eq_iff_iff]
  cases a; cases b; simp
theorem qE (a b : Ed) : SQ.den (.st [.int, .int, .int, .int]) (kE a) (kE b) = some (decide (a = b)) := by
  have e := eqFs_ints [a.a, a.b, a.k, a.c] [b.a, b.b, b.k, b.c] rfl
  refine Eq.trans e (congrArg some ?_)
  rw [Bool.eq_iff_iff]
  cases a; cases b; simp
/-! rows -/
def rI (v : Int) : List AV := [.int .i64 v]
def rF (x : Fr) : List AV := [.int .i64 x.1, .int .i64 x.2, .nils]
def rL (x : Fr) : List AV := [.int .i64 x.1, .int .i64 x.2]
def iv (l : List Int) (j : Nat) : Int := l.getD j 0
theorem iv_row {l : List Int} {j : Nat} (h : j < l.length) : (l.map rI)[j]? = some [.int .i64 (iv l j)] := by simp [h, rI, iv]
theorem rF_row {l : List Fr} {j : Nat} (h : j < l.length) : (l.map rF)[j]? = some [.int .i64 (fr l j).1, .int .i64 (fr l j).2, .nils] := by simp [h, rF, fr]
theorem rL_row {l : List Fr} {j : Nat} (h : j < l.length) : (l.map rL)[j]? = some [.int .i64 (fr l j).1, .int .i64 (fr l j).2] := by simp [h, rL, fr]
theorem iv_drop {a b : List Int} {j : Nat} (h : j < a.length) (hl : a.length = b.length) : (a.drop j = b.drop j) ↔ (iv a j = iv b j ∧ a.drop (j + 1) = b.drop (j + 1)) := by
  have hb : j < b.length := by omega
  have e1 : iv a j = a[j] := by simp [iv, h]
  have e2 : iv b j = b[j] := by simp [iv, hb]
  rw [e1, e2, List.drop_eq_getElem_cons h, List.drop_eq_getElem_cons hb, List.cons.injEq]
theorem ones_rI : ∀ (l : List Int), ones (l.map rI).flatten = true
  | [] => rfl
  | v :: l => by
    simp only [List.map_cons, List.flatten_cons, rI, List.singleton_append, ones]
    exact ones_rI l
theorem ones_rF : ∀ (l : List Fr), ones (l.map rF).flatten = true
  | [] => rfl
  | v :: l => by
    simp only [List.map_cons, List.flatten_cons, rF, List.cons_append, List.nil_append, ones]
    exact ones_rF l
/-! orders -/
def cmpV (a b : Int) : Int := if a < b then -1 else if b < a then 1 else 0
def orV : List Int → Int
  | [] => 0
  | v :: l => if v ≠ 0 then v else orV l
def ordN (a b : Nd) : Int := orV [cmpV a.f b.f, cmpV a.k b.k, cmpV a.i b.i]
def ordE (a b : Ed) : Int := orV [cmpV a.a b.a, cmpV a.b b.b, cmpV a.k b.k, cmpV a.c b.c]
theorem cmpV_lt {a b : Int} (h : a < b) : cmpV a b = -1 := by unfold cmpV; rw [if_pos h]
theorem cmpV_gt {a b : Int} (h : b < a) : cmpV a b = 1 := by unfold cmpV; rw [if_neg (by omega), if_pos h]
theorem cmpV_eq {a b : Int} (h : a = b) : cmpV a b = 0 := by unfold cmpV; rw [if_neg (by omega), if_neg (by omega)]
theorem or_step {a b : Int} {l : List Int} {q : Prop} (h : orV l < 0 ↔ q) : orV (cmpV a b :: l) < 0 ↔ (a < b ∨ (a = b ∧ q)) := by
  rcases Int.lt_trichotomy a b with e | e | e
  · rw [cmpV_lt e]; simp [orV]; omega
  · rw [cmpV_eq e]; simp [orV]; rw [h]; constructor
    · intro q; exact Or.inr ⟨e, q⟩
    · rintro (q | q)
      · omega
      · exact q.2
  · rw [cmpV_gt e]; simp [orV]; omega
theorem or_nil : orV [] < 0 ↔ False := by simp [orV]
theorem ordN_less {a b : Nd} : 0 ≤ ordN a b ↔ lessN a b = false := by
  have h : ordN a b < 0 ↔ (a.f < b.f ∨ (a.f = b.f ∧ (a.k < b.k ∨ (a.k = b.k ∧ (a.i < b.i ∨ (a.i = b.i ∧ False)))))) := or_step (or_step (or_step or_nil))
  simp only [and_false, or_false] at h
  have h2 := lessN_iff (a := a) (b := b)
  constructor
  · intro q
    cases hl : lessN a b with
    | false => rfl
    | true => have := h2.1 hl; have : ordN a b < 0 := h.2 (by omega); omega
  · intro q
    rcases Int.lt_or_le (ordN a b) 0 with q' | q'
    · have := h.1 q'
      have : lessN a b = true := h2.2 (by omega)
      rw [q] at this; cases this
    · exact q'
theorem ordE_less {a b : Ed} : 0 ≤ ordE a b ↔ lessE a b = false := by
  have h : ordE a b < 0 ↔ (a.a < b.a ∨ (a.a = b.a ∧ (a.b < b.b ∨ (a.b = b.b ∧ (a.k < b.k ∨ (a.k = b.k ∧ (a.c < b.c ∨ (a.c = b.c ∧ False)))))))) := or_step (or_step (or_step (or_step or_nil)))
  simp only [and_false, or_false] at h
  have h2 := lessE_iff (a := a) (b := b)
  constructor
  · intro q
    cases hl : lessE a b with
    | false => rfl
    | true => have := h2.1 hl; have : ordE a b < 0 := h.2 (by omega); omega
  · intro q
    rcases Int.lt_or_le (ordE a b) 0 with q' | q'
    · have := h.1 q'
      have : lessE a b = true := h2.2 (by omega)
      rw [q] at this; cases this
    · exact q'
theorem or_drop {l : List Int} {j : Nat} (h : j < l.length) : orV (l.drop j) = if iv l j ≠ 0 then iv l j else orV (l.drop (j + 1)) := by
  rw [List.drop_eq_getElem_cons h, orV]; simp [iv, h]
/-! answers of maps -/
theorem look_ct (n : Int) : lookM false (.int .i64 0) (mc n) = .int .i64 n := by
  unfold mc; split
  · rename_i h; rw [h]; rfl
  · rfl
theorem look_st (ns : List Nd) (f : Int) : lookM false (.int .i64 0) (stF ns ns.length f) = .int .i64 (stI ns f) := by
  have h := stF_some ns f ns.length
  unfold stI
  cases hs : stF ns ns.length f with
  | none => rfl
  | some v =>
    rw [hs] at h
    obtain ⟨s, rfl, _⟩ := h
    rfl
theorem enF_val (es : List Ed) (p : Int × Int) : ∀ j v, enF es j p = some v → v = .bool true
  | 0, v, h => by simp [enF] at h
  | j + 1, v, h => by
    rw [enF] at h
    split at h
    · cases h; rfl
    · exact enF_val es p j v h
theorem look_en (ns : List Nd) (es : List Ed) (call f : Int) : lookM false (.bool false) (enF es es.length (call, stI ns f)) = .bool (entP ns es call f) := by
  unfold entP
  cases h : enF es es.length (call, stI ns f) with
  | none => rfl
  | some v => rw [enF_val _ _ _ _ h]; rfl
theorem look_ix {n : Int} (h : 0 ≤ n) : lookM true (.int .i64 0) (ixV n) = .tup [.int .i64 n, .bool true] := by
  unfold ixV; rw [if_neg (by omega)]; rfl
theorem look_no {n : Int} (h : n < 0) : lookM true (.int .i64 0) (ixV n) = .tup [.int .i64 0, .bool false] := by
  unfold ixV; rw [if_pos h]; rfl
end Go.Proofs.YtlocnfaeiacphaaGreatDoor.Ev
