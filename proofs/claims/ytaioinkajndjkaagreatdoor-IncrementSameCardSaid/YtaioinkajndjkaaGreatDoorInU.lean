/- Data that may be too long to be looked into; what fits. -/
import Derived.Test.YtaioinkajndjkaaGreatDoorInA
import Derived.Test.YtaioinkajndjkaaGreatDoorInS
set_option linter.unusedVariables false
set_option linter.unusedSimpArgs false
/- The shapes of states whose slices may be too long to be looked into. -/
set_option maxHeartbeats 4000000
namespace Go.Proofs.YtaioinkajndjkaaGreatDoor.Ev
open Go
section
variable {B : Nat} {fl : Bool} {h : H} {d : Dt} {cs : List AV} {e : Sh} {sv : AV}
theorem rp_arrF (q : Rp B fl h (.arr e) d cs) : ∃ d' sv, d' = d ∧ cs = [sv] ∧ Rp B fl h (.arr e) d' [sv] := by
  rcases rp_arr.1 q with ⟨l, sv, rfl, rfl, _⟩ | ⟨_, n, oa, cp, rfl, rfl, _⟩
  · exact ⟨_, sv, rfl, rfl, q⟩
  · exact ⟨_, _, rfl, rfl, q⟩
theorem rp_in (q : Rp B fl h (.arr e) d [sv]) (hl : d.len ≤ B) : ∃ l, d = .arr l ∧ l.length ≤ B ∧ Sl B fl h e l sv := by
  rcases rp_arr.1 q with ⟨l, s, rfl, e1, _, q⟩ | ⟨_, n, oa, cp, rfl, _, hb, _⟩
  · cases e1
    exact ⟨l, rfl, hl, q⟩
  · have : n ≤ B := hl
    omega
theorem rp_in0 (hc : e.cnt B = 0) (q : Rp B fl h (.arr e) d [sv]) : ∃ l, d = .arr l ∧ Sl B fl h e l sv := by
  rcases rp_arr.1 q with ⟨l, s, rfl, e1, _, q⟩ | ⟨_, n, oa, cp, rfl, _, _, hb, _⟩
  · cases e1
    exact ⟨l, rfl, q⟩
  · exact absurd hc hb
end
section
variable {P : Program} {X : Exts} {M : Mf} {c : C} {h : H} {K : AV → H → Prop} {env : Env'}
theorem zL {B : Nat} {fl : Bool} {h0 : H} {e : Sh} {d : Dt} {sv : AV} {x : XV} (hk : K (.int .i64 (d.len : Int)) h) (hx : evE env x = some sv := by exact rfl) (hr : Rp B fl h0 (.arr e) d [sv] := by assumption) : WO P X M c (.lenL x) env h K := by
  rcases rp_arr.1 hr with ⟨l, s, rfl, e1, _, q⟩ | ⟨_, n, oa, cp, rfl, e1, _⟩
  · cases e1
    obtain ⟨id, rows, _, A, e2, _⟩ := q.out
    have hk' : K (.int .i64 (rows.length : Int)) h := by rw [e2]; exact hk
    exact z6 hk' hx A
  · cases e1
    exact wo_lenLr hx hk
theorem zj2 {x : XV} {sv : AV} {id j esz o o2 : Nat} {rows : List (List AV)} {row : List AV} {v : AV} (hk : K v h) (hx : evE env x = some (.ptr id (0 + j * esz + o + o2)) := by exact rfl) (hs : seen c.vis id = true := by first | assumption | exact seen_two (by omega)) (hA : Arr h sv esz rows id := by assumption) (hj : rows[j]? = some row := by assumption) (ho : row[o + o2]? = some v := by exact rfl) : WO P X M c (.load1 x) env h K := wo_loadArr1 hA (hx.trans (by rw [Nat.add_assoc])) hs hj ho hk
theorem zP {x y : XV} {p : IntKind} {a b : Int} (ht : a ≤ b → K (.bool true) h) (hf : ¬ a ≤ b → K (.bool false) h) (hx : evE env x = some (.int p a) := by exact rfl) (hy : evE env y = some (.int p b) := by exact rfl) : WO P X M c (.ints .leq x y) env h K := wo_leq hx hy ht hf
end
/-! data without slices that are not looked into -/
theorem nb_i {k : IntKind} {d : Dt} : nb (.int k) d := by simp only [nb]
theorem nb_s {d : Dt} : nb .str d := by simp only [nb]
theorem nb_b {d : Dt} : nb .bool d := by simp only [nb]
theorem nb_row {l : List Sh} {ds : List Dt} (q : nbL l ds) : nb (.row l) (.row ds) := by simpa only [nb, Dt.l] using q
theorem nbL_n {ds : List Dt} : nbL [] ds := by simp only [nbL]
theorem nbL_c {s : Sh} {l : List Sh} {d : Dt} {ds : List Dt} (q1 : nb s d) (q2 : nbL l ds) : nbL (s :: l) (d :: ds) := by
  simp only [nbL]
  exact ⟨q1, q2⟩
theorem nb_arr {e : Sh} {l : List Dt} (q : ∀ i, i < l.length → nb e (l.getD i (.int 0))) : nb (.arr e) (.arr l) := by
  simp only [nb, Dt.l]
  refine ⟨⟨l, rfl⟩, fun i x hx => ?_⟩
  have hi : i < l.length := by
    rcases Nat.lt_or_ge i l.length with h | h
    · exact h
    · rw [List.getElem?_eq_none h] at hx; cases hx
  have := q i hi
  rwa [List.getD_eq_getElem?_getD, hx] at this
theorem nb_arrC {e : Sh} {l : List Dt} {n : Nat} (hn : ¬ n < l.length) (q : ∀ i, i < n → nb e (l.getD i (.int 0))) : nb (.arr e) (.arr l) := nb_arr fun i hi => q i (by omega)
mutual
theorem nb_cnt0 {B : Nat} : ∀ (e : Sh), e.cnt B = 0 → ∀ d, nb e d
  | .int _, _, _ => by simp only [nb]
  | .str, _, _ => by simp only [nb]
  | .bool, _, _ => by simp only [nb]
  | .arr e, q, _ => by simp only [Sh.cnt] at q; generalize B * Sh.cnt B e = z at q; omega
  | .row l, q, d => by
    simp only [nb]
    simp only [Sh.cnt] at q
    exact nbL_cnt0 l q d.l
theorem nbL_cnt0 {B : Nat} : ∀ (l : List Sh), cntL B l = 0 → ∀ ds, nbL l ds
  | [], _, _ => by simp only [nbL]
  | s :: l, q, ds => by
    simp only [cntL] at q
    cases ds with
    | nil => simp only [nbL]
    | cons d ds => exact nbL_c (nb_cnt0 (B := B) s (by omega) d) (nbL_cnt0 (B := B) l (by omega) ds)
end
mutual
/-- the slices hold no slices -/
def shallow (B : Nat) : Sh → Prop
  | .row l => shallowL B l
  | .arr e => e.cnt B = 0
  | .int _ => True
  | .str => True
  | .bool => True
def shallowL (B : Nat) : List Sh → Prop
  | [] => True
  | s :: l => shallow B s ∧ shallowL B l
end
mutual
theorem nb_shallow {B : Nat} {fl : Bool} {h : H} : ∀ {e : Sh} {d : Dt} {cs : List AV}, shallow B e → Rp B fl h e d cs → nb e d
  | .int _, _, _, _, _ => nb_i
  | .str, _, _, _, _ => nb_s
  | .bool, _, _, _, _ => nb_b
  | .row l, d, cs, hs, q => by
    simp only [shallow] at hs
    obtain ⟨ds, rfl, q'⟩ := rp_row q
    exact nb_row (nbL_shallow hs q')
  | .arr e, d, cs, hs, q => by
    simp only [shallow] at hs
    obtain ⟨d', sv, rfl, rfl, q'⟩ := rp_arrF q
    obtain ⟨l, rfl, _⟩ := rp_in0 hs q'
    exact nb_arr fun i _ => nb_cnt0 e hs _
theorem nbL_shallow {B : Nat} {fl : Bool} {h : H} : ∀ {l : List Sh} {ds : List Dt} {cs : List AV}, shallowL B l → RpL B fl h l ds cs → nbL l ds
  | [], _, _, _, _ => nbL_n
  | s :: l, ds, cs, hs, q => by
    simp only [shallowL] at hs
    obtain ⟨d, ds', a, b, rfl, rfl, q1, q2⟩ := rpL_cons q
    exact nbL_c (nb_shallow hs.1 q1) (nbL_shallow hs.2 q2)
end
theorem nb_arrS {B : Nat} {fl : Bool} {h : H} {e : Sh} {l : List Dt} {sv : AV} (hs : shallow B e) (q : Sl B fl h e l sv) : nb (.arr e) (.arr l) := by
  obtain ⟨id, rows, _, _, e2, p⟩ := q.out
  refine nb_arr fun i hi => ?_
  have m1 : l[i]? = some (l.getD i (.int 0)) := by simp [hi]
  exact nb_shallow hs (p i _ _ m1 (List.getElem?_eq_getElem (by omega)))
theorem rpf_Sig {B : Nat} {fl : Bool} {h : H} {d : Dt} {cs : List AV} (q : Rp B fl h ShSig d cs) : ∃ a3 : List Nat, ∃ a5 : Bool, ∃ a7 : Dt, ∃ av7 : AV, ∃ a9 : List Nat, d = .row [.str a3, .bool a5, a7, .str a9] ∧ cs = [.str a3, .bool a5, av7, .str a9] ∧ Rp B fl h (.arr .str) a7 [av7] := by
  obtain ⟨_, rfl, qr1⟩ := rp_row q
  obtain ⟨_, _, _, _, rfl, rfl, qe2, qt2⟩ := rpL_cons qr1
  obtain ⟨a3, rfl, rfl⟩ := rp_str qe2
  obtain ⟨_, _, _, _, rfl, rfl, qe4, qt4⟩ := rpL_cons qt2
  obtain ⟨a5, rfl, rfl⟩ := rp_bool qe4
  obtain ⟨_, _, _, _, rfl, rfl, qe6, qt6⟩ := rpL_cons qt4
  obtain ⟨a7, av7, rfl, rfl, ar7⟩ := rp_arrF qe6
  obtain ⟨_, _, _, _, rfl, rfl, qe8, qt8⟩ := rpL_cons qt6
  obtain ⟨a9, rfl, rfl⟩ := rp_str qe8
  obtain ⟨rfl, rfl⟩ := rpL_nil qt8
  exact ⟨a3, a5, a7, av7, a9, rfl, rfl, ar7⟩
theorem rpf_Class {B : Nat} {fl : Bool} {h : H} {d : Dt} {cs : List AV} (q : Rp B fl h ShClass d cs) : ∃ a3 : List Nat, ∃ a5 : List Nat, ∃ a7 : Dt, ∃ av7 : AV, ∃ a9 : Dt, ∃ av9 : AV, d = .row [.str a3, .str a5, a7, a9] ∧ cs = [.str a3, .str a5, av7, av9] ∧ Rp B fl h (.arr ShField) a7 [av7] ∧ Rp B fl h (.arr ShSig) a9 [av9] := by
  obtain ⟨_, rfl, qr1⟩ := rp_row q
  obtain ⟨_, _, _, _, rfl, rfl, qe2, qt2⟩ := rpL_cons qr1
  obtain ⟨a3, rfl, rfl⟩ := rp_str qe2
  obtain ⟨_, _, _, _, rfl, rfl, qe4, qt4⟩ := rpL_cons qt2
  obtain ⟨a5, rfl, rfl⟩ := rp_str qe4
  obtain ⟨_, _, _, _, rfl, rfl, qe6, qt6⟩ := rpL_cons qt4
  obtain ⟨a7, av7, rfl, rfl, ar7⟩ := rp_arrF qe6
  obtain ⟨_, _, _, _, rfl, rfl, qe8, qt8⟩ := rpL_cons qt6
  obtain ⟨a9, av9, rfl, rfl, ar9⟩ := rp_arrF qe8
  obtain ⟨rfl, rfl⟩ := rpL_nil qt8
  exact ⟨a3, a5, a7, av7, a9, av9, rfl, rfl, ar7, ar9⟩
theorem rpf_Instr {B : Nat} {fl : Bool} {h : H} {d : Dt} {cs : List AV} (q : Rp B fl h ShInstr d cs) : ∃ a3 : Int, ∃ a5 : Int, ∃ a7 : Int, ∃ a9 : Int, ∃ a11 : Int, ∃ a13 : List Nat, ∃ a15 : List Nat, ∃ a17 : Dt, ∃ av17 : AV, ∃ a19 : Int, ∃ a21 : Int, d = .row [.int a3, .int a5, .int a7, .int a9, .int a11, .str a13, .str a15, a17, .int a19, .int a21] ∧ cs = [.int .i64 a3, .int .i64 a5, .int .i64 a7, .int .i64 a9, .int .i64 a11, .str a13, .str a15, av17, .int .i64 a19, .int .i64 a21] ∧ Rp B fl h (.arr (.int .i64)) a17 [av17] := by
  obtain ⟨_, rfl, qr1⟩ := rp_row q
  obtain ⟨_, _, _, _, rfl, rfl, qe2, qt2⟩ := rpL_cons qr1
  obtain ⟨a3, rfl, rfl⟩ := rp_int qe2
  obtain ⟨_, _, _, _, rfl, rfl, qe4, qt4⟩ := rpL_cons qt2
  obtain ⟨a5, rfl, rfl⟩ := rp_int qe4
  obtain ⟨_, _, _, _, rfl, rfl, qe6, qt6⟩ := rpL_cons qt4
  obtain ⟨a7, rfl, rfl⟩ := rp_int qe6
  obtain ⟨_, _, _, _, rfl, rfl, qe8, qt8⟩ := rpL_cons qt6
  obtain ⟨a9, rfl, rfl⟩ := rp_int qe8
  obtain ⟨_, _, _, _, rfl, rfl, qe10, qt10⟩ := rpL_cons qt8
  obtain ⟨a11, rfl, rfl⟩ := rp_int qe10
  obtain ⟨_, _, _, _, rfl, rfl, qe12, qt12⟩ := rpL_cons qt10
  obtain ⟨a13, rfl, rfl⟩ := rp_str qe12
  obtain ⟨_, _, _, _, rfl, rfl, qe14, qt14⟩ := rpL_cons qt12
  obtain ⟨a15, rfl, rfl⟩ := rp_str qe14
  obtain ⟨_, _, _, _, rfl, rfl, qe16, qt16⟩ := rpL_cons qt14
  obtain ⟨a17, av17, rfl, rfl, ar17⟩ := rp_arrF qe16
  obtain ⟨_, _, _, _, rfl, rfl, qe18, qt18⟩ := rpL_cons qt16
  obtain ⟨a19, rfl, rfl⟩ := rp_int qe18
  obtain ⟨_, _, _, _, rfl, rfl, qe20, qt20⟩ := rpL_cons qt18
  obtain ⟨a21, rfl, rfl⟩ := rp_int qe20
  obtain ⟨rfl, rfl⟩ := rpL_nil qt20
  exact ⟨a3, a5, a7, a9, a11, a13, a15, a17, av17, a19, a21, rfl, rfl, ar17⟩
theorem rpf_Func {B : Nat} {fl : Bool} {h : H} {d : Dt} {cs : List AV} (q : Rp B fl h ShFunc d cs) : ∃ a3 : List Nat, ∃ a5 : List Nat, ∃ a7 : Bool, ∃ a9 : Int, ∃ a11 : Dt, ∃ av11 : AV, ∃ a13 : List Nat, ∃ a15 : Dt, ∃ av15 : AV, d = .row [.str a3, .str a5, .bool a7, .int a9, a11, .str a13, a15] ∧ cs = [.str a3, .str a5, .bool a7, .int .i64 a9, av11, .str a13, av15] ∧ Rp B fl h (.arr ShField) a11 [av11] ∧ Rp B fl h (.arr ShInstr) a15 [av15] := by
  obtain ⟨_, rfl, qr1⟩ := rp_row q
  obtain ⟨_, _, _, _, rfl, rfl, qe2, qt2⟩ := rpL_cons qr1
  obtain ⟨a3, rfl, rfl⟩ := rp_str qe2
  obtain ⟨_, _, _, _, rfl, rfl, qe4, qt4⟩ := rpL_cons qt2
  obtain ⟨a5, rfl, rfl⟩ := rp_str qe4
  obtain ⟨_, _, _, _, rfl, rfl, qe6, qt6⟩ := rpL_cons qt4
  obtain ⟨a7, rfl, rfl⟩ := rp_bool qe6
  obtain ⟨_, _, _, _, rfl, rfl, qe8, qt8⟩ := rpL_cons qt6
  obtain ⟨a9, rfl, rfl⟩ := rp_int qe8
  obtain ⟨_, _, _, _, rfl, rfl, qe10, qt10⟩ := rpL_cons qt8
  obtain ⟨a11, av11, rfl, rfl, ar11⟩ := rp_arrF qe10
  obtain ⟨_, _, _, _, rfl, rfl, qe12, qt12⟩ := rpL_cons qt10
  obtain ⟨a13, rfl, rfl⟩ := rp_str qe12
  obtain ⟨_, _, _, _, rfl, rfl, qe14, qt14⟩ := rpL_cons qt12
  obtain ⟨a15, av15, rfl, rfl, ar15⟩ := rp_arrF qe14
  obtain ⟨rfl, rfl⟩ := rpL_nil qt14
  exact ⟨a3, a5, a7, a9, a11, av11, a13, a15, av15, rfl, rfl, ar11, ar15⟩
theorem rpf_Unit {B : Nat} {fl : Bool} {h : H} {d : Dt} {cs : List AV} (q : Rp B fl h ShUnit d cs) : ∃ a5 : Dt, ∃ av5 : AV, ∃ a7 : Dt, ∃ av7 : AV, ∃ a9 : Int, d = .row [.row [a5], a7, .int a9] ∧ cs = [av5, av7, .int .i64 a9] ∧ Rp B fl h (.arr ShClass) a5 [av5] ∧ Rp B fl h (.arr ShFunc) a7 [av7] := by
  obtain ⟨_, rfl, qr1⟩ := rp_row q
  obtain ⟨_, _, _, _, rfl, rfl, qe2, qt2⟩ := rpL_cons qr1
  obtain ⟨_, rfl, qe2r3⟩ := rp_row qe2
  obtain ⟨_, _, _, _, rfl, rfl, qe2e4, qe2t4⟩ := rpL_cons qe2r3
  obtain ⟨a5, av5, rfl, rfl, ar5⟩ := rp_arrF qe2e4
  obtain ⟨rfl, rfl⟩ := rpL_nil qe2t4
  obtain ⟨_, _, _, _, rfl, rfl, qe6, qt6⟩ := rpL_cons qt2
  obtain ⟨a7, av7, rfl, rfl, ar7⟩ := rp_arrF qe6
  obtain ⟨_, _, _, _, rfl, rfl, qe8, qt8⟩ := rpL_cons qt6
  obtain ⟨a9, rfl, rfl⟩ := rp_int qe8
  obtain ⟨rfl, rfl⟩ := rpL_nil qt8
  exact ⟨a5, av5, a7, av7, a9, rfl, rfl, ar5, ar7⟩
theorem rpf_Rule {B : Nat} {fl : Bool} {h : H} {d : Dt} {cs : List AV} (q : Rp B fl h ShRule d cs) : ∃ a3 : Int, ∃ a5 : List Nat, ∃ a7 : List Nat, ∃ a11 : Int, ∃ a13 : Int, ∃ a15 : Dt, ∃ av15 : AV, ∃ a17 : Bool, ∃ a19 : List Nat, d = .row [.int a3, .str a5, .str a7, .row [.int a11, .int a13, a15, .bool a17], .str a19] ∧ cs = [.int .i64 a3, .str a5, .str a7, .int .i64 a11, .int .i64 a13, av15, .bool a17, .str a19] ∧ Rp B fl h (.arr .str) a15 [av15] := by
  obtain ⟨_, rfl, qr1⟩ := rp_row q
  obtain ⟨_, _, _, _, rfl, rfl, qe2, qt2⟩ := rpL_cons qr1
  obtain ⟨a3, rfl, rfl⟩ := rp_int qe2
  obtain ⟨_, _, _, _, rfl, rfl, qe4, qt4⟩ := rpL_cons qt2
  obtain ⟨a5, rfl, rfl⟩ := rp_str qe4
  obtain ⟨_, _, _, _, rfl, rfl, qe6, qt6⟩ := rpL_cons qt4
  obtain ⟨a7, rfl, rfl⟩ := rp_str qe6
  obtain ⟨_, _, _, _, rfl, rfl, qe8, qt8⟩ := rpL_cons qt6
  obtain ⟨_, rfl, qe8r9⟩ := rp_row qe8
  obtain ⟨_, _, _, _, rfl, rfl, qe8e10, qe8t10⟩ := rpL_cons qe8r9
  obtain ⟨a11, rfl, rfl⟩ := rp_int qe8e10
  obtain ⟨_, _, _, _, rfl, rfl, qe8e12, qe8t12⟩ := rpL_cons qe8t10
  obtain ⟨a13, rfl, rfl⟩ := rp_int qe8e12
  obtain ⟨_, _, _, _, rfl, rfl, qe8e14, qe8t14⟩ := rpL_cons qe8t12
  obtain ⟨a15, av15, rfl, rfl, ar15⟩ := rp_arrF qe8e14
  obtain ⟨_, _, _, _, rfl, rfl, qe8e16, qe8t16⟩ := rpL_cons qe8t14
  obtain ⟨a17, rfl, rfl⟩ := rp_bool qe8e16
  obtain ⟨rfl, rfl⟩ := rpL_nil qe8t16
  obtain ⟨_, _, _, _, rfl, rfl, qe18, qt18⟩ := rpL_cons qt8
  obtain ⟨a19, rfl, rfl⟩ := rp_str qe18
  obtain ⟨rfl, rfl⟩ := rpL_nil qt18
  exact ⟨a3, a5, a7, a11, a13, a15, av15, a17, a19, rfl, rfl, ar15⟩
theorem rpf_Policy {B : Nat} {fl : Bool} {h : H} {d : Dt} {cs : List AV} (q : Rp B fl h ShPolicy d cs) : ∃ a3 : Dt, ∃ av3 : AV, ∃ a5 : Dt, ∃ av5 : AV, d = .row [a3, a5] ∧ cs = [av3, av5] ∧ Rp B fl h (.arr ShRule) a3 [av3] ∧ Rp B fl h (.arr ShProto) a5 [av5] := by
  obtain ⟨_, rfl, qr1⟩ := rp_row q
  obtain ⟨_, _, _, _, rfl, rfl, qe2, qt2⟩ := rpL_cons qr1
  obtain ⟨a3, av3, rfl, rfl, ar3⟩ := rp_arrF qe2
  obtain ⟨_, _, _, _, rfl, rfl, qe4, qt4⟩ := rpL_cons qt2
  obtain ⟨a5, av5, rfl, rfl, ar5⟩ := rp_arrF qe4
  obtain ⟨rfl, rfl⟩ := rpL_nil qt4
  exact ⟨a3, av3, a5, av5, rfl, rfl, ar3, ar5⟩
theorem rpf_State {B : Nat} {fl : Bool} {h : H} {d : Dt} {cs : List AV} (q : Rp B fl h ShState d cs) : ∃ a7 : Dt, ∃ av7 : AV, ∃ a9 : Dt, ∃ av9 : AV, ∃ a11 : Int, ∃ a15 : Dt, ∃ av15 : AV, ∃ a17 : Dt, ∃ av17 : AV, ∃ a19 : Dt, ∃ av19 : AV, d = .row [.row [.row [a7], a9, .int a11], .row [a15, a17], a19] ∧ cs = [av7, av9, .int .i64 a11, av15, av17, av19] ∧ Rp B fl h (.arr ShClass) a7 [av7] ∧ Rp B fl h (.arr ShFunc) a9 [av9] ∧ Rp B fl h (.arr ShRule) a15 [av15] ∧ Rp B fl h (.arr ShProto) a17 [av17] ∧ Rp B fl h (.arr ShMemo) a19 [av19] := by
  obtain ⟨_, rfl, qr1⟩ := rp_row q
  obtain ⟨_, _, _, _, rfl, rfl, qe2, qt2⟩ := rpL_cons qr1
  obtain ⟨_, rfl, qe2r3⟩ := rp_row qe2
  obtain ⟨_, _, _, _, rfl, rfl, qe2e4, qe2t4⟩ := rpL_cons qe2r3
  obtain ⟨_, rfl, qe2e4r5⟩ := rp_row qe2e4
  obtain ⟨_, _, _, _, rfl, rfl, qe2e4e6, qe2e4t6⟩ := rpL_cons qe2e4r5
  obtain ⟨a7, av7, rfl, rfl, ar7⟩ := rp_arrF qe2e4e6
  obtain ⟨rfl, rfl⟩ := rpL_nil qe2e4t6
  obtain ⟨_, _, _, _, rfl, rfl, qe2e8, qe2t8⟩ := rpL_cons qe2t4
  obtain ⟨a9, av9, rfl, rfl, ar9⟩ := rp_arrF qe2e8
  obtain ⟨_, _, _, _, rfl, rfl, qe2e10, qe2t10⟩ := rpL_cons qe2t8
  obtain ⟨a11, rfl, rfl⟩ := rp_int qe2e10
  obtain ⟨rfl, rfl⟩ := rpL_nil qe2t10
  obtain ⟨_, _, _, _, rfl, rfl, qe12, qt12⟩ := rpL_cons qt2
  obtain ⟨_, rfl, qe12r13⟩ := rp_row qe12
  obtain ⟨_, _, _, _, rfl, rfl, qe12e14, qe12t14⟩ := rpL_cons qe12r13
  obtain ⟨a15, av15, rfl, rfl, ar15⟩ := rp_arrF qe12e14
  obtain ⟨_, _, _, _, rfl, rfl, qe12e16, qe12t16⟩ := rpL_cons qe12t14
  obtain ⟨a17, av17, rfl, rfl, ar17⟩ := rp_arrF qe12e16
  obtain ⟨rfl, rfl⟩ := rpL_nil qe12t16
  obtain ⟨_, _, _, _, rfl, rfl, qe18, qt18⟩ := rpL_cons qt12
  obtain ⟨a19, av19, rfl, rfl, ar19⟩ := rp_arrF qe18
  obtain ⟨rfl, rfl⟩ := rpL_nil qt18
  exact ⟨a7, av7, a9, av9, a11, a15, av15, a17, av17, a19, av19, rfl, rfl, ar7, ar9, ar15, ar17, ar19⟩
end Go.Proofs.YtaioinkajndjkaaGreatDoor.Ev
/- Comparisons of the reference. -/
set_option maxHeartbeats 4000000
namespace Go.Proofs.YtaioinkajndjkaaGreatDoor.Ev
open Go
variable {c : C} {h : H} {K : AV → H → Prop}
theorem Fit_ev (hall : ∀ id, id < 10000000 → seen c.vis id = true) {d : Dt} {cs : List AV} (hcx : Cx c h) (hn : h.n + 14 < 10000000) (r : Rp 100 false h ShUnit d cs) (kf : ∀ h', Grew h h' → h'.n ≤ h.n + 14 → K (.bool false) h') (kt : nb ShUnit d → ∀ h', Grew h h' → h'.n ≤ h.n + 14 → K (.bool true) h') :
    Gv Tryz.prog X0 Mx c 4 [.agg cs, .int .i64 100] h K := by
  have hnt : (110 : Nat) ≤ 1000000 := by decide
  have hlow := hcx.low
  obtain ⟨a5, av5, a7, av7, a9, rfl, rfl, ar5, ar7⟩ := rpf_Unit r
  refine gv_fn x_Fit (Mx_no rfl _ _ _) (by simp) hnt ?_
  unfold s_Fit SR.g SR.o
  refine wc_seq (wc_reg (rg_go hnt rfl rfl (wo_boxA rfl rfl (by omega) fun h1 hn1 hb1 hg1 => ?_)))
  have hb12 : h1.get h.n = some (.cells [av5, av7, .int .i64 a9]) := hb1
  have hs1 : seen c.vis h.n = true := hcx.new (Nat.le_refl _) (by omega)
  repeat' (first | refine z0 ?_ | refine z1 ?_ | refine z2 ?_ | refine z3 ?_ | refine z6 ?_ | refine zL ?_ | refine z8 ?_ | refine za ?_ | refine zc ?_ | refine zd ?_ | refine zh ?_ | refine zj ?_ | refine zl ?_ | (refine zm ?_ ?_ <;> intro hc <;> try (exfalso; omega)) | (refine zo ?_ ?_ <;> intro hc <;> try (exfalso; omega)) | (refine zP ?_ ?_ <;> intro hc <;> try (exfalso; omega)) | refine wg_nil ?_ | refine then_go ?_ | refine wc_seq ?_ | refine wc_reg ?_ | refine wc_block ?_ | refine zu ?_ | refine zv ?_ | refine wc_skip ?_ | refine wc_exit ?_ | refine wc_ret ?_ | refine then_ret ?_ | refine then_exit ?_ | refine out_go ?_ | refine out_ret ?_ | refine zA ?_)
  rotate_right
  · obtain ⟨l1, rfl, hL1, S1⟩ := rp_in ar5 (by omega)
    obtain ⟨id1, r1, o1, A1, e1, p1⟩ := S1.out
    have hz1 : (ShClass : Sh).sz = 4 := rfl
    rw [hz1] at A1
    have hB1 : (Dt.arr l1).len = l1.length := rfl
    obtain ⟨l2, rfl, hL2, S2⟩ := rp_in ar7 (by omega)
    obtain ⟨id2, r2, o2, A2, e2, p2⟩ := S2.out
    have hz2 : (ShFunc : Sh).sz = 7 := rfl
    rw [hz2] at A2
    have hB2 : (Dt.arr l2).len = l2.length := rfl
    refine wc_loopE (ι := Nat) (fun j => [(1, .int .i64 100), (2, .ptr h.n 0), (5, .int .i64 (j : Int))]) (fun j h' => Grew h1 h' ∧ h'.n ≤ h1.n + j ∧ j ≤ l1.length ∧ ∀ i, i < j → nb ShClass (l1.getD i (.int 0))) (fun j => l1.length - j) ?_ 0 ⟨Grew.refl _, by omega, Nat.zero_le _, fun i hi => absurd hi (by omega)⟩ (Sub'.cons rfl (Sub'.cons rfl (Sub'.cons rfl (Sub'.nil _))))
    rintro j h' ⟨hgr, hle, hj, hnb⟩
    have hgl := hgr.le
    have hc12 := (hgr.get h.n (by omega)).trans hb12
    have hgB := hg1.trans hgr
    have C1 := A1.grew hgB
    by_cases hlt : j < l1.length
    · have g4 : r1[j]? = some (r1[j]'(by omega)) := List.getElem?_eq_getElem (by omega)
      have hid4 : id1 < h.n := by
        rcases A1.at_ with ⟨q, _⟩ | ⟨_, _, q, _⟩
        · rw [q] at e1; simp at e1; omega
        · exact q
      have hse4 := hall id1 (by omega)
      have m4 : l1[j]? = some (l1.getD j (.int 0)) := by simp [show j < l1.length by omega]
      have t4 := p1 j _ _ m4 g4
      generalize r1[j]'(by omega) = w4 at g4 t4
      generalize hE4 : l1.getD j (.int 0) = x4 at m4 t4
      have o4 := t4.ones
      obtain ⟨u3, u5, u7, uv7, u9, uv9, rfl, rfl, ur7, ur9⟩ := rpf_Class t4
      repeat' (first | refine z0 ?_ | refine z1 ?_ | refine z2 ?_ | refine z3 ?_ | refine z6 ?_ | refine zL ?_ | refine z8 ?_ | refine za ?_ | refine zc ?_ | refine zd ?_ | refine zh ?_ | refine zj ?_ | refine zl ?_ | (refine zm ?_ ?_ <;> intro hc <;> try (exfalso; omega)) | (refine zo ?_ ?_ <;> intro hc <;> try (exfalso; omega)) | (refine zP ?_ ?_ <;> intro hc <;> try (exfalso; omega)) | refine wg_nil ?_ | refine then_go ?_ | refine wc_seq ?_ | refine wc_reg ?_ | refine wc_block ?_ | refine zu ?_ | refine zv ?_ | refine wc_skip ?_ | refine wc_exit ?_ | refine wc_ret ?_ | refine then_ret ?_ | refine then_exit ?_ | refine out_go ?_ | refine out_ret ?_ | refine zA ?_)
      refine rg_bs hnt (hcx.mono (by omega)) (by omega) rfl rfl rfl rfl (by rfl) (by exact o4) fun h3 hn3 hb3 hg3 => ?_
      have hs3 : seen c.vis h'.n = true := hcx.new (by omega) (by omega)
      have hgC := hgB.trans hg3
      repeat' (first | refine z0 ?_ | refine z1 ?_ | refine z2 ?_ | refine z3 ?_ | refine z6 ?_ | refine zL ?_ | refine z8 ?_ | refine za ?_ | refine zc ?_ | refine zd ?_ | refine zh ?_ | refine zj ?_ | refine zl ?_ | (refine zm ?_ ?_ <;> intro hc <;> try (exfalso; omega)) | (refine zo ?_ ?_ <;> intro hc <;> try (exfalso; omega)) | (refine zP ?_ ?_ <;> intro hc <;> try (exfalso; omega)) | refine wg_nil ?_ | refine then_go ?_ | refine wc_seq ?_ | refine wc_reg ?_ | refine wc_block ?_ | refine zu ?_ | refine zv ?_ | refine wc_skip ?_ | refine wc_exit ?_ | refine wc_ret ?_ | refine then_ret ?_ | refine then_exit ?_ | refine out_go ?_ | refine out_ret ?_ | refine zA ?_)
      rotate_right
      · obtain ⟨l3, rfl, hL3, S3⟩ := rp_in ur9 (by omega)
        obtain ⟨id3, r3, o3, A3, e3, p3⟩ := S3.out
        have hz3 : (ShSig : Sh).sz = 4 := rfl
        rw [hz3] at A3
        have hB3 : (Dt.arr l3).len = l3.length := rfl
        have C3 := A3.grew hgC
        refine wc_loopE (ι := Nat) (fun jj => [(1, .int .i64 100), (2, .ptr h.n 0), (5, .int .i64 (j : Int)), (6, .ptr h'.n 0), (7, .int .i64 (jj : Int))]) (fun jj h4 => h4 = h3 ∧ jj ≤ l3.length) (fun jj => l3.length - jj) ?_ 0 ⟨rfl, Nat.zero_le _⟩ (Sub'.cons rfl (Sub'.cons rfl (Sub'.cons rfl (Sub'.cons rfl (Sub'.cons rfl (Sub'.nil _))))))
        rintro jj h4 ⟨hh, hjj⟩
        have hh2 : h3 = h4 := hh.symm
        subst hh2
        by_cases hltt : jj < l3.length
        · have g6 : r3[jj]? = some (r3[jj]'(by omega)) := List.getElem?_eq_getElem (by omega)
          have hid6 : id3 < h.n := by
            rcases A3.at_ with ⟨q, _⟩ | ⟨_, _, q, _⟩
            · rw [q] at e3; simp at e3; omega
            · exact q
          have hse6 := hall id3 (by omega)
          have m6 : l3[jj]? = some (l3.getD jj (.int 0)) := by simp [show jj < l3.length by omega]
          have t6 := p3 jj _ _ m6 g6
          generalize r3[jj]'(by omega) = w6 at g6 t6
          generalize hE6 : l3.getD jj (.int 0) = x6 at m6 t6
          have o6 := t6.ones
          obtain ⟨y3, y5, y7, yv7, y9, rfl, rfl, yr7⟩ := rpf_Sig t6
          repeat' (first | refine z0 ?_ | refine z1 ?_ | refine z2 ?_ | refine z3 ?_ | refine z6 ?_ | refine zL ?_ | refine z8 ?_ | refine za ?_ | refine zc ?_ | refine zd ?_ | refine zh ?_ | refine zj ?_ | refine zl ?_ | (refine zm ?_ ?_ <;> intro hc <;> try (exfalso; omega)) | (refine zo ?_ ?_ <;> intro hc <;> try (exfalso; omega)) | (refine zP ?_ ?_ <;> intro hc <;> try (exfalso; omega)) | refine wg_nil ?_ | refine then_go ?_ | refine wc_seq ?_ | refine wc_reg ?_ | refine wc_block ?_ | refine zu ?_ | refine zv ?_ | refine wc_skip ?_ | refine wc_exit ?_ | refine wc_ret ?_ | refine then_ret ?_ | refine then_exit ?_ | refine out_go ?_ | refine out_ret ?_ | refine zA ?_)
          · exact ⟨Or.inr rfl, _, rfl, kf _ hgC (by omega)⟩
          · exact ⟨jj + 1, by simp; omega, (Sub'.cons rfl (Sub'.cons rfl (Sub'.cons rfl (Sub'.cons rfl (Sub'.cons rfl (Sub'.nil _)))))), rfl, hltt⟩
        · repeat' (first | refine z0 ?_ | refine z1 ?_ | refine z2 ?_ | refine z3 ?_ | refine z6 ?_ | refine zL ?_ | refine z8 ?_ | refine za ?_ | refine zc ?_ | refine zd ?_ | refine zh ?_ | refine zj ?_ | refine zl ?_ | (refine zm ?_ ?_ <;> intro hc <;> try (exfalso; omega)) | (refine zo ?_ ?_ <;> intro hc <;> try (exfalso; omega)) | (refine zP ?_ ?_ <;> intro hc <;> try (exfalso; omega)) | refine wg_nil ?_ | refine then_go ?_ | refine wc_seq ?_ | refine wc_reg ?_ | refine wc_block ?_ | refine zu ?_ | refine zv ?_ | refine wc_skip ?_ | refine wc_exit ?_ | refine wc_ret ?_ | refine then_ret ?_ | refine then_exit ?_ | refine out_go ?_ | refine out_ret ?_ | refine zA ?_)
          exact ⟨j + 1, by simp; omega, (Sub'.cons rfl (Sub'.cons rfl (Sub'.cons rfl (Sub'.nil _)))), hgr.trans hg3, by omega, hlt, (fun i hi => by by_cases q : i < j; exact hnb i q; have q : i = j := (by omega); subst q; rw [hE4]; exact (nb_row (nbL_c nb_s (nbL_c nb_s (nbL_c (nb_shallow (by simp [shallow, shallowL, Sh.cnt, cntL]) ur7) (nbL_c (nb_arrS (by simp [shallow, shallowL, Sh.cnt, cntL]) S3) nbL_n))))))⟩
      all_goals exact ⟨Or.inr rfl, _, rfl, kf _ hgC (by omega)⟩
    · have nbA : nb (.arr ShClass) (.arr l1) := nb_arrC hlt hnb
      clear hnb
      repeat' (first | refine z0 ?_ | refine z1 ?_ | refine z2 ?_ | refine z3 ?_ | refine z6 ?_ | refine zL ?_ | refine z8 ?_ | refine za ?_ | refine zc ?_ | refine zd ?_ | refine zh ?_ | refine zj ?_ | refine zl ?_ | (refine zm ?_ ?_ <;> intro hc <;> try (exfalso; omega)) | (refine zo ?_ ?_ <;> intro hc <;> try (exfalso; omega)) | (refine zP ?_ ?_ <;> intro hc <;> try (exfalso; omega)) | refine wg_nil ?_ | refine then_go ?_ | refine wc_seq ?_ | refine wc_reg ?_ | refine wc_block ?_ | refine zu ?_ | refine zv ?_ | refine wc_skip ?_ | refine wc_exit ?_ | refine wc_ret ?_ | refine then_ret ?_ | refine then_exit ?_ | refine out_go ?_ | refine out_ret ?_ | refine zA ?_)
      refine wc_loopE (ι := Nat × Int) (fun q => [(1, .int .i64 100), (2, .ptr h.n 0), (8, .int .i64 q.2), (9, .int .i64 (q.1 : Int))]) (fun q h4 => h4 = h' ∧ q.1 ≤ l2.length ∧ 0 ≤ q.2 ∧ q.2 ≤ 100 * (q.1 : Int) ∧ ∀ i, i < q.1 → nb ShFunc (l2.getD i (.int 0))) (fun q => l2.length - q.1) ?_ (0, 0) ⟨rfl, Nat.zero_le _, by simp, by simp, fun i hi => absurd hi (by simp)⟩ (Sub'.cons rfl (Sub'.cons rfl (Sub'.cons rfl (Sub'.cons rfl (Sub'.nil _)))))
      clear hlt
      have C2 := A2.grew hgB
      rintro ⟨j, s⟩ h4 ⟨hh, hj, hs0, hs5, hnb⟩
      have hh2 : h' = h4 := hh.symm
      subst hh2
      simp only at hj hs0 hs5 hnb
      show WC _ _ _ _ _ _ [(1, .int .i64 100), (2, .ptr h.n 0), (8, .int .i64 s), (9, .int .i64 (j : Int))] _ _
      by_cases hlt : j < l2.length
      · have g7 : r2[j]? = some (r2[j]'(by omega)) := List.getElem?_eq_getElem (by omega)
        have hid7 : id2 < h.n := by
          rcases A2.at_ with ⟨q, _⟩ | ⟨_, _, q, _⟩
          · rw [q] at e2; simp at e2; omega
          · exact q
        have hse7 := hall id2 (by omega)
        have m7 : l2[j]? = some (l2.getD j (.int 0)) := by simp [show j < l2.length by omega]
        have t7 := p2 j _ _ m7 g7
        generalize r2[j]'(by omega) = w7 at g7 t7
        generalize hE7 : l2.getD j (.int 0) = x7 at m7 t7
        have o7 := t7.ones
        obtain ⟨v3, v5, v7, v9, v11, vv11, v13, v15, vv15, rfl, rfl, vr11, vr15⟩ := rpf_Func t7
        repeat' (first | refine z0 ?_ | refine z1 ?_ | refine z2 ?_ | refine z3 ?_ | refine z6 ?_ | refine zL ?_ | refine z8 ?_ | refine za ?_ | refine zc ?_ | refine zd ?_ | refine zh ?_ | refine zj ?_ | refine zl ?_ | (refine zm ?_ ?_ <;> intro hc <;> try (exfalso; omega)) | (refine zo ?_ ?_ <;> intro hc <;> try (exfalso; omega)) | (refine zP ?_ ?_ <;> intro hc <;> try (exfalso; omega)) | refine wg_nil ?_ | refine then_go ?_ | refine wc_seq ?_ | refine wc_reg ?_ | refine wc_block ?_ | refine zu ?_ | refine zv ?_ | refine wc_skip ?_ | refine wc_exit ?_ | refine wc_ret ?_ | refine then_ret ?_ | refine then_exit ?_ | refine out_go ?_ | refine out_ret ?_ | refine zA ?_)
        rotate_right
        · obtain ⟨l5, rfl, hL5, S5⟩ := rp_in vr15 (by omega)
          obtain ⟨id5, r5, o5, A5, e5, p5⟩ := S5.out
          have hz5 : (ShInstr : Sh).sz = 10 := rfl
          rw [hz5] at A5
          have hB5 : (Dt.arr l5).len = l5.length := rfl
          refine wc_loopE (ι := Nat) (fun jj => [(1, .int .i64 100), (2, .ptr h.n 0), (8, .int .i64 (s + ((Dt.arr l5).len : Int))), (9, .int .i64 (j : Int)), (10, vv15), (11, .int .i64 (jj : Int))]) (fun jj h5 => h5 = h' ∧ jj ≤ l5.length) (fun jj => l5.length - jj) ?_ 0 ⟨rfl, Nat.zero_le _⟩ (Sub'.cons rfl (Sub'.cons rfl (Sub'.cons rfl (Sub'.cons rfl (Sub'.cons rfl (Sub'.cons rfl (Sub'.nil _)))))))
          rintro jj h5 ⟨hh, hjj⟩
          have hh2 : h' = h5 := hh.symm
          subst hh2
          have D5 := A5.grew hgB
          by_cases hltt : jj < l5.length
          · have g8 : r5[jj]? = some (r5[jj]'(by omega)) := List.getElem?_eq_getElem (by omega)
            have hid8 : id5 < h.n := by
              rcases A5.at_ with ⟨q, _⟩ | ⟨_, _, q, _⟩
              · rw [q] at e5; simp at e5; omega
              · exact q
            have hse8 := hall id5 (by omega)
            have m8 : l5[jj]? = some (l5.getD jj (.int 0)) := by simp [show jj < l5.length by omega]
            have t8 := p5 jj _ _ m8 g8
            generalize r5[jj]'(by omega) = w8 at g8 t8
            generalize hE8 : l5.getD jj (.int 0) = x8 at m8 t8
            have o8 := t8.ones
            obtain ⟨s3, s5, s7, s9, s11, s13, s15, s17, sv17, s19, s21, rfl, rfl, sr17⟩ := rpf_Instr t8
            repeat' (first | refine z0 ?_ | refine z1 ?_ | refine z2 ?_ | refine z3 ?_ | refine z6 ?_ | refine zL ?_ | refine z8 ?_ | refine za ?_ | refine zc ?_ | refine zd ?_ | refine zh ?_ | refine zj ?_ | refine zl ?_ | (refine zm ?_ ?_ <;> intro hc <;> try (exfalso; omega)) | (refine zo ?_ ?_ <;> intro hc <;> try (exfalso; omega)) | (refine zP ?_ ?_ <;> intro hc <;> try (exfalso; omega)) | refine wg_nil ?_ | refine then_go ?_ | refine wc_seq ?_ | refine wc_reg ?_ | refine wc_block ?_ | refine zu ?_ | refine zv ?_ | refine wc_skip ?_ | refine wc_exit ?_ | refine wc_ret ?_ | refine then_ret ?_ | refine then_exit ?_ | refine out_go ?_ | refine out_ret ?_ | refine zA ?_)
            · exact ⟨Or.inr rfl, _, rfl, kf _ hgB (by omega)⟩
            · exact ⟨jj + 1, by simp; omega, (Sub'.cons rfl (Sub'.cons rfl (Sub'.cons rfl (Sub'.cons rfl (Sub'.cons rfl (Sub'.cons rfl (Sub'.nil _))))))), rfl, hltt⟩
          · repeat' (first | refine z0 ?_ | refine z1 ?_ | refine z2 ?_ | refine z3 ?_ | refine z6 ?_ | refine zL ?_ | refine z8 ?_ | refine za ?_ | refine zc ?_ | refine zd ?_ | refine zh ?_ | refine zj ?_ | refine zl ?_ | (refine zm ?_ ?_ <;> intro hc <;> try (exfalso; omega)) | (refine zo ?_ ?_ <;> intro hc <;> try (exfalso; omega)) | (refine zP ?_ ?_ <;> intro hc <;> try (exfalso; omega)) | refine wg_nil ?_ | refine then_go ?_ | refine wc_seq ?_ | refine wc_reg ?_ | refine wc_block ?_ | refine zu ?_ | refine zv ?_ | refine wc_skip ?_ | refine wc_exit ?_ | refine wc_ret ?_ | refine then_ret ?_ | refine then_exit ?_ | refine out_go ?_ | refine out_ret ?_ | refine zA ?_)
            exact ⟨(j + 1, s + ((Dt.arr l5).len : Int)), by simp; omega, (Sub'.cons rfl (Sub'.cons rfl (Sub'.cons rfl (Sub'.cons rfl (Sub'.nil _))))), rfl, hlt, by simp only; omega, by simp only; omega, (fun i hi => by by_cases q : i < j; exact hnb i q; have q : i = j := (by omega); subst q; rw [hE7]; exact (nb_row (nbL_c nb_s (nbL_c nb_s (nbL_c nb_b (nbL_c nb_i (nbL_c (nb_shallow (by simp [shallow, shallowL, Sh.cnt, cntL]) vr11) (nbL_c nb_s (nbL_c (nb_arrS (by simp [shallow, shallowL, Sh.cnt, cntL]) S5) nbL_n)))))))))⟩
        all_goals exact ⟨Or.inr rfl, _, rfl, kf _ hgB (by omega)⟩
      · have nbU : nb ShUnit (.row [.row [.arr l1], .arr l2, .int a9]) := (nb_row (nbL_c (nb_row (nbL_c nbA nbL_n)) (nbL_c (nb_arrC hlt hnb) (nbL_c nb_i nbL_n))))
        repeat' (first | refine z0 ?_ | refine z1 ?_ | refine z2 ?_ | refine z3 ?_ | refine z6 ?_ | refine zL ?_ | refine z8 ?_ | refine za ?_ | refine zc ?_ | refine zd ?_ | refine zh ?_ | refine zj ?_ | refine zl ?_ | (refine zm ?_ ?_ <;> intro hc <;> try (exfalso; omega)) | (refine zo ?_ ?_ <;> intro hc <;> try (exfalso; omega)) | (refine zP ?_ ?_ <;> intro hc <;> try (exfalso; omega)) | refine wg_nil ?_ | refine then_go ?_ | refine wc_seq ?_ | refine wc_reg ?_ | refine wc_block ?_ | refine zu ?_ | refine zv ?_ | refine wc_skip ?_ | refine wc_exit ?_ | refine wc_ret ?_ | refine then_ret ?_ | refine then_exit ?_ | refine out_go ?_ | refine out_ret ?_ | refine zA ?_)
        · exact ⟨Or.inr rfl, _, rfl, kt nbU _ hgB (by omega)⟩
        · exact ⟨Or.inr rfl, _, rfl, kf _ hgB (by omega)⟩
  all_goals exact ⟨Or.inr rfl, _, rfl, kf _ hg1 (by omega)⟩
theorem fit_ev (hall : ∀ id, id < 10000000 → seen c.vis id = true) {d : Dt} {cs : List AV} (hcx : Cx c h) (hn : h.n + 1 < 10000000) (r : Rp 100 false h ShPolicy d cs) (kf : ∀ h', Grew h h' → h'.n ≤ h.n + 1 → K (.bool false) h') (kt : nb ShPolicy d → ∀ h', Grew h h' → h'.n ≤ h.n + 1 → K (.bool true) h') :
    Gv Tryz.prog X0 Mx c 5 [.agg cs] h K := by
  have hnt : (30 : Nat) ≤ 1000000 := by decide
  have hlow := hcx.low
  obtain ⟨a3, av3, a5, av5, rfl, rfl, ar3, ar5⟩ := rpf_Policy r
  refine gv_fn x_fit (Mx_no rfl _ _ _) (by simp) hnt ?_
  unfold s_fit SR.g SR.o
  refine wc_seq (wc_reg (rg_go hnt rfl rfl (wo_boxA rfl rfl (by omega) fun h1 hn1 hb1 hg1 => ?_)))
  have hb12 : h1.get h.n = some (.cells [av3, av5]) := hb1
  have hs1 : seen c.vis h.n = true := hcx.new (Nat.le_refl _) (by omega)
  repeat' (first | refine z0 ?_ | refine z1 ?_ | refine z2 ?_ | refine z3 ?_ | refine z6 ?_ | refine zL ?_ | refine z8 ?_ | refine za ?_ | refine zc ?_ | refine zd ?_ | refine zh ?_ | refine zj2 ?_ | (refine zm ?_ ?_ <;> intro hc <;> try (exfalso; omega)) | (refine zo ?_ ?_ <;> intro hc <;> try (exfalso; omega)) | refine wg_nil ?_ | refine then_go ?_ | refine wc_seq ?_ | refine wc_reg ?_ | refine wc_block ?_ | refine zu ?_ | refine zv ?_ | refine wc_skip ?_ | refine wc_exit ?_ | refine wc_ret ?_ | refine then_ret ?_ | refine then_exit ?_ | refine out_go ?_ | refine out_ret ?_ | refine zA ?_)
  rotate_right
  · obtain ⟨l1, rfl, hL1, S1⟩ := rp_in ar3 (by omega)
    obtain ⟨id1, r1, o1, A1, e1, p1⟩ := S1.out
    have hz1 : (ShRule : Sh).sz = 8 := rfl
    rw [hz1] at A1
    have hB1 : (Dt.arr l1).len = l1.length := rfl
    obtain ⟨l2, rfl, hL2, S2⟩ := rp_in ar5 (by omega)
    obtain ⟨id2, r2, o2, A2, e2, p2⟩ := S2.out
    have hz2 : (ShProto : Sh).sz = 5 := rfl
    rw [hz2] at A2
    have hB2 : (Dt.arr l2).len = l2.length := rfl
    have C1 := A1.grew hg1
    refine wc_loopE (ι := Nat) (fun j => [(1, .ptr h.n 0), (3, .int .i64 (j : Int))]) (fun j h' => h' = h1 ∧ j ≤ l1.length) (fun j => l1.length - j) ?_ 0 ⟨rfl, Nat.zero_le _⟩ (Sub'.cons rfl (Sub'.cons rfl (Sub'.nil _)))
    rintro j h' ⟨hh, hj⟩
    have hh2 : h1 = h' := hh.symm
    subst hh2
    by_cases hlt : j < l1.length
    · have g4 : r1[j]? = some (r1[j]'(by omega)) := List.getElem?_eq_getElem (by omega)
      have hid4 : id1 < h.n := by
        rcases A1.at_ with ⟨q, _⟩ | ⟨_, _, q, _⟩
        · rw [q] at e1; simp at e1; omega
        · exact q
      have hse4 := hall id1 (by omega)
      have m4 : l1[j]? = some (l1.getD j (.int 0)) := by simp [show j < l1.length by omega]
      have t4 := p1 j _ _ m4 g4
      generalize r1[j]'(by omega) = w4 at g4 t4
      generalize hE4 : l1.getD j (.int 0) = x4 at m4 t4
      have o4 := t4.ones
      obtain ⟨u3, u5, u7, u11, u13, u15, uv15, u17, u19, rfl, rfl, ur15⟩ := rpf_Rule t4
      repeat' (first | refine z0 ?_ | refine z1 ?_ | refine z2 ?_ | refine z3 ?_ | refine z6 ?_ | refine zL ?_ | refine z8 ?_ | refine za ?_ | refine zc ?_ | refine zd ?_ | refine zh ?_ | refine zj2 ?_ | (refine zm ?_ ?_ <;> intro hc <;> try (exfalso; omega)) | (refine zo ?_ ?_ <;> intro hc <;> try (exfalso; omega)) | refine wg_nil ?_ | refine then_go ?_ | refine wc_seq ?_ | refine wc_reg ?_ | refine wc_block ?_ | refine zu ?_ | refine zv ?_ | refine wc_skip ?_ | refine wc_exit ?_ | refine wc_ret ?_ | refine then_ret ?_ | refine then_exit ?_ | refine out_go ?_ | refine out_ret ?_ | refine zA ?_)
      · exact ⟨Or.inr rfl, _, rfl, kf _ hg1 (by omega)⟩
      · exact ⟨j + 1, by simp; omega, (Sub'.cons rfl (Sub'.cons rfl (Sub'.nil _))), rfl, hlt⟩
    · have nbP : nb ShPolicy (.row [.arr l1, .arr l2]) := (nb_row (nbL_c (nb_arrS (by simp [shallow, shallowL, Sh.cnt, cntL]) S1) (nbL_c (nb_arrS (by simp [shallow, shallowL, Sh.cnt, cntL]) S2) nbL_n)))
      repeat' (first | refine z0 ?_ | refine z1 ?_ | refine z2 ?_ | refine z3 ?_ | refine z6 ?_ | refine zL ?_ | refine z8 ?_ | refine za ?_ | refine zc ?_ | refine zd ?_ | refine zh ?_ | refine zj2 ?_ | (refine zm ?_ ?_ <;> intro hc <;> try (exfalso; omega)) | (refine zo ?_ ?_ <;> intro hc <;> try (exfalso; omega)) | refine wg_nil ?_ | refine then_go ?_ | refine wc_seq ?_ | refine wc_reg ?_ | refine wc_block ?_ | refine zu ?_ | refine zv ?_ | refine wc_skip ?_ | refine wc_exit ?_ | refine wc_ret ?_ | refine then_ret ?_ | refine then_exit ?_ | refine out_go ?_ | refine out_ret ?_ | refine zA ?_)
      exact ⟨Or.inr rfl, _, rfl, kt nbP _ hg1 (by omega)⟩
  all_goals exact ⟨Or.inr rfl, _, rfl, kf _ hg1 (by omega)⟩
end Go.Proofs.YtaioinkajndjkaaGreatDoor.Ev