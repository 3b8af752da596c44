/- Symbolic runs of the evaluator: short rules. -/
import Derived.Test.YtaioinkajndjkaaGreatDoorSyE
set_option linter.unusedVariables false
set_option linter.unusedSimpArgs false
/- The rules of walks, with their side conditions found by themselves; data in trees. -/
namespace Go.Proofs.YtaioinkajndjkaaGreatDoor.Ev
open Go
theorem seen_two {n A : Nat} (h : A < 10000000) : seen [(n, big), (A, Nat.succ A)] A = true := by
  unfold seen
  cases hb : Nat.ble n A with
  | true =>
    show Nat.blt A big = true
    have : A < big := by unfold big; omega
    simpa [Nat.blt_eq] using this
  | false =>
    show seen [(A, Nat.succ A)] A = true
    unfold seen
    have h1 : Nat.ble A A = true := by simp
    rw [h1]
    show Nat.blt A (Nat.succ A) = true
    simp [Nat.blt_eq]
theorem wo_loadArrE {P : Program} {X : Exts} {M : Mf} {c : C} {env : Env'} {h : H} {K : AV → H → Prop} {x : XV} {sv : AV} {id j : Nat} {rows : List (List AV)} {v : AV} (hA : Arr h sv 1 rows id) (hx : evE env x = some (.ptr id (0 + j * 1))) (hs : seen c.vis id = true) (hj : rows[j]? = some [v]) (hk : K v h) : WO P X M c (.load1 x) env h K :=
  wo_loadArr1 (o := 0) hA hx hs hj rfl hk
section
variable {P : Program} {X : Exts} {M : Mf} {c : C} {nt : Nat} {env : Env'} {h : H} {K : AV → H → Prop} {d p : Nat} {op : SO} {m b : Bool} {f : Option XV} {ops : List SR}
theorem z0 {Q : Env' → H → Prop} {g : Option (Nat × Bool)} (w : WO P X M c op env h (fun v h' => WG P X M c nt ops ((d, v) :: env) h' Q)) (hnt : nt ≤ 1000000 := by assumption) (hg : wantsE env g = some true := by exact rfl) (hd : Nat.blt d nt = true := by exact rfl) : WG P X M c nt (⟨some d, op, g, p, m, b, f⟩ :: ops) env h Q := rg_go hnt hg hd w
theorem z1 {Q : Env' → H → Prop} {g : Nat × Bool} (w : WG P X M c nt ops ((d, .tup []) :: env) h Q) (hnt : nt ≤ 1000000 := by assumption) (hg : wantsE env (some g) = some false := by exact rfl) (hd : Nat.blt d nt = true := by exact rfl) : WG P X M c nt (⟨some d, op, some g, p, m, b, f⟩ :: ops) env h Q := rg_off hnt hg hd w
theorem z2 {x : XV} {v : AV} (hk : K v h) (hx : evE env x = some v := by exact rfl) : WO P X M c (.mv x) env h K := wo_mv hx hk
theorem z3 {o : Nat} {x : XV} {id off : Nat} (hk : K (.ptr id (off + o)) h) (hx : evE env x = some (.ptr id off) := by exact rfl) : WO P X M c (.faddr o x) env h K := wo_faddr hx hk
theorem z4 {x : XV} {id off : Nat} (hk : K (.ptr id off) h) (hx : evE env x = some (.ptr id off) := by exact rfl) : WO P X M c (.nilc x) env h K := wo_nilc hx hk
theorem z6 {x : XV} {h0 : H} {sv : AV} {esz id : Nat} {rows : List (List AV)} (hk : K (.int .i64 (rows.length : Int)) h) (hx : evE env x = some sv := by exact rfl) (hA : Arr h0 sv esz rows id := by assumption) : WO P X M c (.lenL x) env h K := wo_lenArr hA hx hk
theorem z7 {x : XV} {id off n es : Nat} {cap : Option Nat} (hk : K (.int .i64 (n : Int)) h) (hx : evE env x = some (.sl id off n es cap) := by exact rfl) : WO P X M c (.lenL x) env h K := wo_lenL hx hk
theorem z8 {esz : Nat} {x i : XV} {h0 : H} {sv : AV} {id j : Nat} {p : IntKind} {z : Int} {rows : List (List AV)} (hk : K (.ptr id (0 + j * esz)) h) (hx : evE env x = some sv := by exact rfl) (hi : evE env i = some (.int p z) := by exact rfl) (hz : z = (j : Int) := by exact rfl) (hA : Arr h0 sv esz rows id := by assumption) (hj : j < rows.length := by omega) : WO P X M c (.iaddr esz x i) env h K := wo_iaddrArr hA hx hi hz hj hk
theorem z9 {esz : Nat} {x i : XV} {h0 : H} {sv : AV} {id : Nat} {p : IntKind} {z : Int} {rows : List (List AV)} (hk : K (.ptr id (0 + z.toNat * esz)) h) (hx : evE env x = some sv := by exact rfl) (hi : evE env i = some (.int p z) := by exact rfl) (hA : Arr h0 sv esz rows id := by assumption) (hz : 0 ≤ z := by omega) (hj : z < rows.length := by omega) : WO P X M c (.iaddr esz x i) env h K := wo_iaddrZ hA hx hi hz hj hk
theorem za {x y : XV} {a b : Int} (hk : K (.int .i64 (a + b)) h) (hx : evE env x = some (.int .i64 a) := by exact rfl) (hy : evE env y = some (.int .i64 b) := by exact rfl) (h1 : -9223372036854775808 ≤ a + b := by omega) (h2 : a + b ≤ 9223372036854775807 := by omega) : WO P X M c (.ints .add x y) env h K := wo_add hx hy h1 h2 hk
theorem zc {b x y : XV} {v : AV} (hk : K v h) (hb : evE env b = some (.bool true) := by exact rfl) (hx : evE env x = some v := by exact rfl) : WO P X M c (.pick b x y) env h K := wo_pick_t hb hx hk
theorem zd {b x y : XV} {v : AV} (hk : K v h) (hb : evE env b = some (.bool false) := by exact rfl) (hy : evE env y = some v := by exact rfl) : WO P X M c (.pick b x y) env h K := wo_pick_f hb hy hk
theorem ze {x : XV} {b : Bool} (hk : K (.bool (!b)) h) (hx : evE env x = some (.bool b) := by exact rfl) : WO P X M c (.not x) env h K := wo_not hx hk
theorem zh {x : XV} {id off : Nat} {vs : List AV} {v : AV} (hk : K v h) (hx : evE env x = some (.ptr id off) := by exact rfl) (hs : seen c.vis id = true := by first | assumption | exact seen_two (by omega)) (hg : h.get id = some (.cells vs) := by assumption) (hv : vs[off]? = some v := by first | exact rfl | assumption) : WO P X M c (.load1 x) env h K := wo_load1 hx hs hg hv hk
theorem zi {n : Nat} {x : XV} {id off : Nat} {vs us : List AV} (hk : K (.agg us) h) (hx : evE env x = some (.ptr id off) := by exact rfl) (hs : seen c.vis id = true := by first | assumption | exact seen_two (by omega)) (hg : h.get id = some (.cells vs) := by assumption) (hl : off + n ≤ vs.length := by first | (simp [AV.cells]; done) | omega) (hu : (vs.drop off).take n = us := by exact rfl) : WO P X M c (.loadN n x) env h K := wo_loadN hx hs hg hl hu hk
theorem zj {x : XV} {sv : AV} {id j esz o : Nat} {rows : List (List AV)} {row : List AV} {v : AV} (hk : K v h) (hx : evE env x = some (.ptr id (0 + j * esz + o)) := by exact rfl) (hs : seen c.vis id = true := by first | assumption | exact seen_two (by omega)) (hA : Arr h sv esz rows id := by assumption) (hj : rows[j]? = some row := by assumption) (ho : row[o]? = some v := by exact rfl) : WO P X M c (.load1 x) env h K := wo_loadArr1 hA hx hs hj ho hk
theorem zk {x : XV} {sv : AV} {id j : Nat} {rows : List (List AV)} {v : AV} (hk : K v h) (hx : evE env x = some (.ptr id (0 + j * 1)) := by exact rfl) (hs : seen c.vis id = true := by first | assumption | exact seen_two (by omega)) (hA : Arr h sv 1 rows id := by assumption) (hj : rows[j]? = some [v] := by assumption) : WO P X M c (.load1 x) env h K := wo_loadArrE hA hx hs hj hk
theorem zl {x : XV} {sv : AV} {id j esz : Nat} {rows : List (List AV)} {row : List AV} (hk : K (.agg row) h) (hx : evE env x = some (.ptr id (0 + j * esz)) := by exact rfl) (hs : seen c.vis id = true := by first | assumption | exact seen_two (by omega)) (hA : Arr h sv esz rows id := by assumption) (hj : rows[j]? = some row := by assumption) : WO P X M c (.loadN esz x) env h K := wo_loadArrN hA hx hs hj hk
theorem zm {x y : XV} {p : IntKind} {a b : Int} (ht : a < b → K (.bool true) h) (hf : ¬ a < b → K (.bool false) h) (hx : evE env x = some (.int p a) := by exact rfl) (hy : evE env y = some (.int p b) := by exact rfl) : WO P X M c (.ints .lss x y) env h K := wo_lss hx hy ht hf
theorem zo {x y : XV} {p : IntKind} {a b : Int} (ht : b < a → K (.bool true) h) (hf : ¬ b < a → K (.bool false) h) (hx : evE env x = some (.int p a) := by exact rfl) (hy : evE env y = some (.int p b) := by exact rfl) : WO P X M c (.ints .gtr x y) env h K := wo_gtr hx hy ht hf
theorem zq {neg : Bool} {x y : XV} {p : IntKind} {a b : Int} (ht : a = b → K (.bool (bne true neg)) h) (hf : ¬ a = b → K (.bool (bne false neg)) h) (hx : evE env x = some (.int p a) := by exact rfl) (hy : evE env y = some (.int p b) := by exact rfl) : WO P X M c (.eql (.b .int) neg x y) env h K := wo_eqi hx hy ht hf
theorem zu {v : XV} {a b : SC} {Q : Ex → Env' → H → Prop} (w : WC P X M c nt a env h Q) (hv : evE env v = some (.bool true) := by exact rfl) : WC P X M c nt (.cond v a b) env h Q := wc_t hv w
theorem zv {v : XV} {a b : SC} {Q : Ex → Env' → H → Prop} (w : WC P X M c nt b env h Q) (hv : evE env v = some (.bool false) := by exact rfl) : WC P X M c nt (.cond v a b) env h Q := wc_f hv w
variable {base : List (Nat × Nat)} {i : Nat} {rs : List (Nat × Nat × Nat)} {bs : List (Nat × Tr AB × Tr AB)} {fs : List (Nat × Nat)}
theorem zw {Q : Env' → H → Prop} {g : Option (Nat × Bool)} (w : WO P X M ⟨h.n, [(h.n, big)]⟩ op env h (fun v h' => WD P X M c nt base ops (i + 1) (addR i h.n h'.n rs) bs fs ((d, v) :: env) h' Q)) (hnt : nt ≤ 1000000 := by assumption) (hg : wantsE env g = some true := by exact rfl) (hd : Nat.blt d nt = true := by exact rfl) : WD P X M c nt base (⟨some d, op, g, p, false, b, none⟩ :: ops) i rs bs fs env h Q := rd_pure hnt hg hd w
theorem zx {Q : Env' → H → Prop} {g : Option (Nat × Bool)} {n0 A : Nat} {vis : List (Nat × Nat)} {x : XV} {a : AV} (w : WO P X M ⟨h.n, [(h.n, big), (A, Nat.succ A)]⟩ op env h (fun v h' => WD P X M c nt (cutBase n0 vis) ops (i + 1) (addR i h.n h'.n rs) bs ((i, A) :: fs) ((d, v) :: env) h' Q)) (hnt : nt ≤ 1000000 := by assumption) (hg : wantsE env g = some true := by exact rfl) (hd : Nat.blt d nt = true := by exact rfl) (ha : evE env x = some a := by exact rfl) (hA : footId a = some A := by exact rfl)
    (hr : ∀ r ∈ rs, n0 ≤ r.2.1 := by repeat (first | exact rs_nil | refine rs_add (by first | exact Nat.le_refl _ | omega) ?_)) (hn : n0 ≤ h.n := by first | exact Nat.le_refl _ | omega) (hid : A < n0 := by omega) (hs : seen vis A = true := by assumption) (hun : unchB p A bs = true := by repeat (first | exact unchB_nil | refine unchB_pred (by decide) ?_ | refine unchB_same (by assumption) (by assumption) ?_)) : WD P X M c nt (cutBase n0 vis) (⟨some d, op, g, p, m, b, some x⟩ :: ops) i rs bs fs env h Q := rd_foot hnt hg hd ha hA (seen_old hr hn hid hs) hun w
theorem zy {Q : Env' → H → Prop} {g : Nat × Bool} (w : WD P X M c nt base ops (i + 1) rs bs fs ((d, .tup []) :: env) h Q) (hnt : nt ≤ 1000000 := by assumption) (hg : wantsE env (some g) = some false := by exact rfl) (hd : Nat.blt d nt = true := by exact rfl) : WD P X M c nt base (⟨some d, op, some g, p, m, b, f⟩ :: ops) i rs bs fs env h Q := rd_off hnt hg hd w
theorem zA {id id' : Nat} {Q : Ex → Env' → H → Prop} (w : Q .normal env h) (e : Nat.beq id' id = true := by exact rfl) : outOf id Q (.exit id') env h := out_here e w
end
/-! equality of flat data -/
/-- the cells of flat data as one value -/
inductive FlatQ : Sh → SQ → Prop where
  | int : FlatQ (.int .i64) (.b .int)
  | str : FlatQ .str (.b .str)
/-- the words for the fields of a struct -/
def sbOf : Sh → Option SB
  | .int .i64 => some .int
  | .str => some .str
  | .bool => some .bool
  | _ => none
def sbsOf : List Sh → Option (List SB)
  | [] => some []
  | s :: l => match sbOf s, sbsOf l with
    | some b, some bs => some (b :: bs)
    | _, _ => none
theorem sb_eq {B1 B2 : Nat} {f1 f2 : Bool} {h1 h2 : H} {s : Sh} {b : SB} {d1 d2 : Dt} {c1 c2 : List AV} (hs : sbOf s = some b) (r1 : Rp B1 f1 h1 s d1 c1) (r2 : Rp B2 f2 h2 s d2 c2) : ∃ a1 a2 p, c1 = [a1] ∧ c2 = [a2] ∧ b.den a1 a2 = some p ∧ (p = true ↔ d1 = d2) := by
  cases s with
  | int k =>
    obtain ⟨n1, rfl, rfl⟩ := rp_int r1
    obtain ⟨n2, rfl, rfl⟩ := rp_int r2
    cases k <;> first | (cases hs; done) | skip
    cases hs
    exact ⟨_, _, decide (n1 = n2), rfl, rfl, eqInt_dec .i64 n1 n2, by simp⟩
  | str =>
    obtain ⟨n1, rfl, rfl⟩ := rp_str r1
    obtain ⟨n2, rfl, rfl⟩ := rp_str r2
    cases hs
    exact ⟨_, _, decide (n1 = n2), rfl, rfl, by simp only [SB.den, eqStr, eqL_eq], by simp⟩
  | bool =>
    obtain ⟨n1, rfl, rfl⟩ := rp_bool r1
    obtain ⟨n2, rfl, rfl⟩ := rp_bool r2
    cases hs
    exact ⟨_, _, _, rfl, rfl, rfl, by simp⟩
  | row l => cases hs
  | arr e => cases hs
theorem sbs_eq {B1 B2 : Nat} {f1 f2 : Bool} {h1 h2 : H} : ∀ {shs : List Sh} {bs : List SB} {ds1 ds2 : List Dt} {c1 c2 : List AV}, sbsOf shs = some bs → RpL B1 f1 h1 shs ds1 c1 → RpL B2 f2 h2 shs ds2 c2 → ∃ p, eqFs (bs.map SB.den) c1 c2 = some p ∧ (p = true ↔ ds1 = ds2)
  | [], bs, ds1, ds2, c1, c2, hs, r1, r2 => by
    obtain ⟨rfl, rfl⟩ := rpL_nil r1
    obtain ⟨rfl, rfl⟩ := rpL_nil r2
    cases hs
    exact ⟨true, rfl, by simp⟩
  | s :: shs, bs, ds1, ds2, c1, c2, hs, r1, r2 => by
    unfold sbsOf at hs
    split at hs
    · rename_i b bs' hb hbs
      cases hs
      obtain ⟨d1, ds1', a1, b1, rfl, rfl, q1, q1'⟩ := rpL_cons r1
      obtain ⟨d2, ds2', a2, b2, rfl, rfl, q2, q2'⟩ := rpL_cons r2
      obtain ⟨v1, v2, p, rfl, rfl, e1, e2⟩ := sb_eq hb q1 q2
      obtain ⟨p', e3, e4⟩ := sbs_eq hbs q1' q2'
      simp only [List.map_cons, List.singleton_append, eqFs, e1]
      cases p with
      | true => exact ⟨p', e3, by rw [e4, List.cons.injEq]; simp [e2.1 rfl]⟩
      | false => exact ⟨false, rfl, by simp; intro q; exact absurd (e2.2 q) (by simp)⟩
    · cases hs
theorem row_eq {B1 B2 : Nat} {f1 f2 : Bool} {h1 h2 : H} {shs : List Sh} {bs : List SB} {d1 d2 : Dt} {c1 c2 : List AV} (hs : sbsOf shs = some bs) (r1 : Rp B1 f1 h1 (.row shs) d1 c1) (r2 : Rp B2 f2 h2 (.row shs) d2 c2) : ∃ p, (SQ.st bs).den (.agg c1) (.agg c2) = some p ∧ (p = true ↔ d1 = d2) := by
  obtain ⟨l1, rfl, q1⟩ := rp_row r1
  obtain ⟨l2, rfl, q2⟩ := rp_row r2
  obtain ⟨p, e1, e2⟩ := sbs_eq hs q1 q2
  exact ⟨p, e1, by rw [e2]; simp⟩
section
variable {P : Program} {X : Exts} {M : Mf} {c : C} {env : Env'} {h : H} {K : AV → H → Prop}
theorem wo_eqRow {B1 B2 : Nat} {f1 f2 : Bool} {h1 h2 : H} {shs : List Sh} {bs : List SB} {neg : Bool} {x y : XV} {d1 d2 : Dt} {c1 c2 : List AV} (r1 : Rp B1 f1 h1 (.row shs) d1 c1) (r2 : Rp B2 f2 h2 (.row shs) d2 c2) (hs : sbsOf shs = some bs) (hx : evE env x = some (.agg c1)) (hy : evE env y = some (.agg c2)) (ht : d1 = d2 → K (.bool (bne true neg)) h) (hf : ¬ d1 = d2 → K (.bool (bne false neg)) h) : WO P X M c (.eql (.st bs) neg x y) env h K := by
  obtain ⟨p, e1, e2⟩ := row_eq hs r1 r2
  cases p with
  | true => exact wo_eql hx hy e1 (ht (e2.1 rfl))
  | false => exact wo_eql hx hy e1 (hf fun q => absurd (e2.2 q) (by simp))
theorem wo_eqb {neg : Bool} {x y : XV} {a b : Bool} (hx : evE env x = some (.bool a)) (hy : evE env y = some (.bool b)) (ht : a = b → K (.bool (bne true neg)) h) (hf : ¬ a = b → K (.bool (bne false neg)) h) : WO P X M c (.eql (.b .bool) neg x y) env h K := by
  by_cases q : a = b
  · exact wo_eql hx hy (by simp [SQ.den, SB.den, eqBl, q] : (SQ.b .bool).den (.bool a) (.bool b) = some true) (ht q)
  · exact wo_eql hx hy (by simp [SQ.den, SB.den, eqBl, q] : (SQ.b .bool).den (.bool a) (.bool b) = some false) (hf q)
theorem zS {neg : Bool} {x y : XV} {a1 a2 b1 b2 : List Nat} (ht : a1 = b1 → a2 = b2 → K (.bool (bne true neg)) h) (hf : ¬ (a1 = b1 ∧ a2 = b2) → K (.bool (bne false neg)) h) (hx : evE env x = some (.agg [.str a1, .str a2]) := by exact rfl) (hy : evE env y = some (.agg [.str b1, .str b2]) := by exact rfl) : WO P X M c (.eql (.st [.str, .str]) neg x y) env h K := by
  have e : (SQ.st [.str, .str]).den (.agg [.str a1, .str a2]) (.agg [.str b1, .str b2]) = some (decide (a1 = b1 ∧ a2 = b2)) := by
    show eqFs [eqStr, eqStr] [.str a1, .str a2] [.str b1, .str b2] = _
    simp only [eqFs, eqStr, eqL_eq]
    by_cases q : a1 = b1
    · subst q
      by_cases q2 : a2 = b2
      · subst q2; simp
      · simp [q2]
    · simp [q]
  by_cases q : a1 = b1 ∧ a2 = b2
  · rw [decide_eq_true q] at e; exact wo_eql hx hy e (ht q.1 q.2)
  · rw [decide_eq_false q] at e; exact wo_eql hx hy e (hf q)
theorem zs {neg : Bool} {x y : XV} {a b : List Nat} (ht : a = b → K (.bool (bne true neg)) h) (hf : ¬ a = b → K (.bool (bne false neg)) h) (hx : evE env x = some (.str a) := by exact rfl) (hy : evE env y = some (.str b) := by exact rfl) : WO P X M c (.eql (.b .str) neg x y) env h K := wo_eqs hx hy ht hf
theorem zt {neg : Bool} {x y : XV} {a b : Bool} (ht : a = b → K (.bool (bne true neg)) h) (hf : ¬ a = b → K (.bool (bne false neg)) h) (hx : evE env x = some (.bool a) := by exact rfl) (hy : evE env y = some (.bool b) := by exact rfl) : WO P X M c (.eql (.b .bool) neg x y) env h K := wo_eqb hx hy ht hf
end
theorem drop_eq {l1 l2 : List Dt} {j : Nat} (h1 : j < l1.length) (h2 : j < l2.length) : (l1.drop j = l2.drop j) ↔ (l1.getD j (.int 0) = l2.getD j (.int 0) ∧ l1.drop (j + 1) = l2.drop (j + 1)) := by
  rw [List.drop_eq_getElem_cons h1, List.drop_eq_getElem_cons h2, List.cons.injEq]
  simp [h1, h2]
theorem rp_rowM {B : Nat} {fl : Bool} {h : H} {l : List Sh} {ds : List Dt} {cs : List AV} (q : RpL B fl h l ds cs) : Rp B fl h (.row l) (.row ds) cs := by
  simp only [Rp]; exact ⟨ds, rfl, q⟩
theorem rpL_consM {B : Nat} {fl : Bool} {h : H} {s : Sh} {l : List Sh} {d : Dt} {ds : List Dt} {a b : List AV} (q1 : Rp B fl h s d a) (q2 : RpL B fl h l ds b) : RpL B fl h (s :: l) (d :: ds) (a ++ b) := by
  simp only [RpL]; exact ⟨d, ds, a, b, rfl, rfl, q1, q2⟩
theorem rpL_nilM {B : Nat} {fl : Bool} {h : H} : RpL B fl h [] [] [] := by simp [RpL]
theorem rp_intM {B : Nat} {fl : Bool} {h : H} {k : IntKind} {n : Int} : Rp B fl h (.int k) (.int n) [.int k n] := by simp [Rp]
theorem rp_boolM {B : Nat} {fl : Bool} {h : H} {n : Bool} : Rp B fl h .bool (.bool n) [.bool n] := by simp [Rp]
theorem rp_arrM {B : Nat} {fl : Bool} {h : H} {e : Sh} {l : List Dt} {sv : AV} (q1 : l.length ≤ B ∨ e.cnt B = 0) (q2 : Sl B fl h e l sv) : Rp B fl h (.arr e) (.arr l) [sv] := rp_arr.2 (Or.inl ⟨l, sv, rfl, rfl, q1, q2⟩)
end Go.Proofs.YtaioinkajndjkaaGreatDoor.Ev
/- Two variables made at the end of a region that draws. -/
namespace Go.Proofs.YtaioinkajndjkaaGreatDoor.Ev
open Go
theorem unchF_nil {preds : Nat} {t t' : Tr AB} : unchF preds t t' [] = true := rfl
theorem unchF_cons {preds i A : Nat} {t t' : Tr AB} {fs : List (Nat × Nat)} (h : Nat.testBit preds i = true) (h' : unchF preds t t' fs = true) : unchF preds t t' ((i, A) :: fs) = true := by
  simp only [unchF, h, h', Bool.true_or, Bool.and_self]
section
variable {P : Program} {X : Exts} {M : Mf} {c : C} {nt : Nat} {env : Env'} {h : H} {Q : Env' → H → Prop} {base : List (Nat × Nat)} {i : Nat} {rs : List (Nat × Nat × Nat)} {bs : List (Nat × Tr AB × Tr AB)} {fs : List (Nat × Nat)}
variable {n d1 d2 p1 p2 p3 p4 : Nat} {x y : XV} {zs zs' row row' : List AV} {v u : AV}
/-- two variables made at the end of a region that draws -/
theorem rd_bs2 (hnt : nt ≤ 1000000) (hd2 : Nat.blt d2 nt = true) (hlow : c.floor ≤ h.n) (hn : h.n + 1 < 10000000)
    (hse1 : evE ((d2, .ptr (h.n + 1) 0) :: (d1, .ptr h.n 0) :: env) (.tmp d1) = some (.ptr h.n 0)) (hse2 : evE ((d2, .ptr (h.n + 1) 0) :: (d1, .ptr h.n 0) :: env) (.tmp d2) = some (.ptr (h.n + 1) 0))
    (hx : evE ((d2, .ptr (h.n + 1) 0) :: (d1, .ptr h.n 0) :: env) x = some v) (hy : evE ((d2, .ptr (h.n + 1) 0) :: (d1, .ptr h.n 0) :: env) y = some u) (hc : v.cells = row) (hc' : u.cells = row') (hz : zs.length = n) (hz' : zs'.length = n) (hr : row.length = n) (hr' : row'.length = n) (ho : ones row = true) (ho' : ones row' = true)
    (hb : Nat.testBit p3 i = true) (hb' : Nat.testBit p4 (i + 1) = true)
    (hF : ∀ (p : Nat) (h1 h2 : H), (∀ j, j < h.n → h1.get j = h.get j) → (∀ j, j < h.n → h2.get j = h.get j) → unchF p h1.t h2.t fs = true)
    (w : ∀ h2, h2.n = h.n + 2 → h2.get h.n = some (.cells row) → h2.get (h.n + 1) = some (.cells row') → Grew h h2 → Q ((d2, .ptr (h.n + 1) 0) :: (d1, .ptr h.n 0) :: env) h2) :
    WO P X M ⟨h.n, [(h.n, big)]⟩ (.box (.const (.agg zs))) env h (fun v h' => WD P X M c nt base [⟨some d2, .box (.const (.agg zs')), none, p2, false, false, none⟩, ⟨none, .store n (.tmp d1) x, none, p3, true, true, none⟩, ⟨none, .store n (.tmp d2) y, none, p4, true, true, none⟩] (i + 1) (addR i h.n h'.n rs) bs fs ((d1, v) :: env) h' Q) := by
  subst hc hc'
  refine wo_boxA rfl rfl (by omega) fun h1 e1 hb1 g1 => ?_
  refine rd_pure hnt rfl hd2 (wo_boxA rfl rfl (by omega) fun h2 e2 hb2 g2 => ?_)
  rw [e1] at hb2 ⊢
  have hb1' := (g2.get h.n (by omega)).trans hb1
  have g12 := g1.trans g2
  refine rd_bar0 hnt rfl (wo_storeA hse1 hx hlow (seen_skip (by omega) (seen_hit hb (Nat.le_refl _) (by omega) (by omega)) (by omega)) hb1' hr ho (by show 0 + n ≤ zs.length; omega) (by omega) (splice_all (by show zs.length = _; omega)) fun h3 e3 hb3 k3 => ?_)
  have g3 : ∀ j, j < h.n → h3.get j = h.get j := fun j hj => (k3 j (by omega)).trans (g12.get j hj)
  have hb2' := (k3 (h.n + 1) (by omega)).trans hb2
  refine ⟨hF _ h2 h3 g12.get g3, rd_bar0 hnt rfl (wo_storeA hse2 hy (by show c.floor ≤ _; omega) (seen_skip (by omega) (seen_hit hb' (by omega) (by omega) (by omega)) (by omega)) hb2' hr' ho' (by show 0 + n ≤ zs'.length; omega) hn (splice_all (by show zs'.length = _; omega)) fun h4 e4 hb4 k4 => ?_)⟩
  have g4 : ∀ j, j < h.n → h4.get j = h.get j := fun j hj => (k4 j (by omega)).trans (g3 j hj)
  refine ⟨hF _ h3 h4 g3 g4, wd_nil (w h4 (by omega) ((k4 h.n (by omega)).trans hb3) hb4 ⟨by omega, g4⟩)⟩
end
end Go.Proofs.YtaioinkajndjkaaGreatDoor.Ev