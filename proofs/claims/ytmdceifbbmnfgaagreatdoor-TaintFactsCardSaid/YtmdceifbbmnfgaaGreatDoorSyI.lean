/- Symbolic runs of the evaluator: short rules; shapes. -/
import Derived.Test.YtmdceifbbmnfgaaGreatDoorSyE
set_option linter.unusedVariables false
set_option linter.unusedSimpArgs false
namespace Go.Proofs.YtmdceifbbmnfgaaGreatDoor.Ev
open Go
theorem seen_two {n A : Nat} (h : A < 10000000) : seen [(n, big), (A, Nat.succ A)] A = true := by
 unfold seen
 cases hb : Nat.ble n A with
 | true =>
  show Nat.blt A big = true
  have : A < big := by unfold big; omega
  simpa [Nat.blt_eq] using this
 | false =>
  show seen [(A, Nat.succ A)] A = true
  unfold seen
  have h1 : Nat.ble A A = true := by simp
  rw [h1]
  show Nat.blt A (Nat.succ A) = true
  simp [Nat.blt_eq]
theorem wo_loadArrE {P : Program} {X : Exts} {M : Mf} {c : C} {env : Env'} {h : H} {K : AV → H → Prop} {x : XV} {sv : AV} {id j : Nat} {rows : List (List AV)} {v : AV} (hA : Arr h sv 1 rows id) (hx : evE env x = some (.ptr id (0 + j * 1))) (hs : seen c.vis id = true) (hj : rows[j]? = some [v]) (hk : K v h) : WO P X M c (.load1 x) env h K :=
 wo_loadArr1 (o := 0) hA hx hs hj rfl hk
section
variable {P : Program} {X : Exts} {M : Mf} {c : C} {nt : Nat} {env : Env'} {h : H} {K : AV → H → Prop} {d p : Nat} {op : SO} {m b : Bool} {f : Option XV} {ops : List SR}
theorem z0 {Q : Env' → H → Prop} {g : Option (Nat × Bool)} (w : WO P X M c op env h (fun v h' => WG P X M c nt ops ((d, v) :: env) h' Q)) (hnt : nt ≤ 1000000 := by assumption) (hg : wantsE env g = some true := by exact rfl) (hd : Nat.blt d nt = true := by exact rfl) : WG P X M c nt (⟨some d, op, g, p, m, b, f⟩ :: ops) env h Q := rg_go hnt hg hd w
theorem z1 {Q : Env' → H → Prop} {g : Nat × Bool} (w : WG P X M c nt ops ((d, .tup []) :: env) h Q) (hnt : nt ≤ 1000000 := by assumption) (hg : wantsE env (some g) = some false := by exact rfl) (hd : Nat.blt d nt = true := by exact rfl) : WG P X M c nt (⟨some d, op, some g, p, m, b, f⟩ :: ops) env h Q := rg_off hnt hg hd w
theorem z2 {x : XV} {v : AV} (hk : K v h) (hx : evE env x = some v := by exact rfl) : WO P X M c (.mv x) env h K := wo_mv hx hk
theorem z3 {o : Nat} {x : XV} {id off : Nat} (hk : K (.ptr id (off + o)) h) (hx : evE env x = some (.ptr id off) := by exact rfl) : WO P X M c (.faddr o x) env h K := wo_faddr hx hk
theorem z4 {x : XV} {id off : Nat} (hk : K (.ptr id off) h) (hx : evE env x = some (.ptr id off) := by exact rfl) : WO P X M c (.nilc x) env h K := wo_nilc hx hk
theorem z6 {x : XV} {h0 : H} {sv : AV} {esz id : Nat} {rows : List (List AV)} (hk : K (.int .i64 (rows.length : Int)) h) (hx : evE env x = some sv := by exact rfl) (hA : Arr h0 sv esz rows id := by assumption) : WO P X M c (.lenL x) env h K := wo_lenArr hA hx hk
theorem z7 {x : XV} {id off n es : Nat} {cap : Option Nat} (hk : K (.int .i64 (n : Int)) h) (hx : evE env x = some (.sl id off n es cap) := by exact rfl) : WO P X M c (.lenL x) env h K := wo_lenL hx hk
theorem z8 {esz : Nat} {x i : XV} {h0 : H} {sv : AV} {id j : Nat} {p : IntKind} {z : Int} {rows : List (List AV)} (hk : K (.ptr id (0 + j * esz)) h) (hx : evE env x = some sv := by exact rfl) (hi : evE env i = some (.int p z) := by exact rfl) (hz : z = (j : Int) := by exact rfl) (hA : Arr h0 sv esz rows id := by assumption) (hj : j < rows.length := by omega) : WO P X M c (.iaddr esz x i) env h K := wo_iaddrArr hA hx hi hz hj hk
theorem z9 {esz : Nat} {x i : XV} {h0 : H} {sv : AV} {id : Nat} {p : IntKind} {z : Int} {rows : List (List AV)} (hk : K (.ptr id (0 + z.toNat * esz)) h) (hx : evE env x = some sv := by exact rfl) (hi : evE env i = some (.int p z) := by exact rfl) (hA : Arr h0 sv esz rows id := by assumption) (hz : 0 ≤ z := by omega) (hj : z < rows.length := by omega) : WO P X M c (.iaddr esz x i) env h K := wo_iaddrZ hA hx hi hz hj hk
theorem za {x y : XV} {a b : Int} (hk : K (.int .i64 (a + b)) h) (hx : evE env x = some (.int .i64 a) := by exact rfl) (hy : evE env y = some (.int .i64 b) := by exact rfl) (h1 : -9223372036854775808 ≤ a + b := by omega) (h2 : a + b ≤ 9223372036854775807 := by omega) : WO P X M c (.ints .add x y) env h K := wo_add hx hy h1 h2 hk
theorem zb {x y : XV} {a b : Int} (hk : K (.int .i64 (a - b)) h) (hx : evE env x = some (.int .i64 a) := by exact rfl) (hy : evE env y = some (.int .i64 b) := by exact rfl) (h1 : -9223372036854775808 ≤ a - b := by omega) (h2 : a - b ≤ 9223372036854775807 := by omega) : WO P X M c (.ints .sub x y) env h K := wo_sub hx hy h1 h2 hk
theorem zc {b x y : XV} {v : AV} (hk : K v h) (hb : evE env b = some (.bool true) := by exact rfl) (hx : evE env x = some v := by exact rfl) : WO P X M c (.pick b x y) env h K := wo_pick_t hb hx hk
theorem zd {b x y : XV} {v : AV} (hk : K v h) (hb : evE env b = some (.bool false) := by exact rfl) (hy : evE env y = some v := by exact rfl) : WO P X M c (.pick b x y) env h K := wo_pick_f hb hy hk
theorem ze {x : XV} {b : Bool} (hk : K (.bool (!b)) h) (hx : evE env x = some (.bool b) := by exact rfl) : WO P X M c (.not x) env h K := wo_not hx hk
theorem zf {x : XV} {i : Nat} {vs : List AV} {v : AV} (hk : K v h) (hx : evE env x = some (.tup vs) := by exact rfl) (hv : vs[i]? = some v := by exact rfl) : WO P X M c (.extr x i) env h K := wo_extr hx hv hk
theorem zg {z : List AV} {ps : List (Nat × Nat × XV)} {l : List AV} (hk : K (.agg l) h) (hp : partsE env ps z = some l := by exact rfl) : WO P X M c (.build z ps) env h K := wo_build hp hk
theorem zh {x : XV} {id off : Nat} {vs : List AV} {v : AV} (hk : K v h) (hx : evE env x = some (.ptr id off) := by exact rfl) (hs : seen c.vis id = true := by first | assumption | exact seen_two (by omega)) (hg : h.get id = some (.cells vs) := by assumption) (hv : vs[off]? = some v := by first | exact rfl | assumption) : WO P X M c (.load1 x) env h K := wo_load1 hx hs hg hv hk
theorem zi {n : Nat} {x : XV} {id off : Nat} {vs us : List AV} (hk : K (.agg us) h) (hx : evE env x = some (.ptr id off) := by exact rfl) (hs : seen c.vis id = true := by first | assumption | exact seen_two (by omega)) (hg : h.get id = some (.cells vs) := by assumption) (hl : off + n ≤ vs.length := by first | (simp [AV.cells]; done) | omega) (hu : (vs.drop off).take n = us := by exact rfl) : WO P X M c (.loadN n x) env h K := wo_loadN hx hs hg hl hu hk
theorem zj {x : XV} {sv : AV} {id j esz o : Nat} {rows : List (List AV)} {row : List AV} {v : AV} (hk : K v h) (hx : evE env x = some (.ptr id (0 + j * esz + o)) := by exact rfl) (hs : seen c.vis id = true := by first | assumption | exact seen_two (by omega)) (hA : Arr h sv esz rows id := by assumption) (hj : rows[j]? = some row := by assumption) (ho : row[o]? = some v := by exact rfl) : WO P X M c (.load1 x) env h K := wo_loadArr1 hA hx hs hj ho hk
theorem zk {x : XV} {sv : AV} {id j : Nat} {rows : List (List AV)} {v : AV} (hk : K v h) (hx : evE env x = some (.ptr id (0 + j * 1)) := by exact rfl) (hs : seen c.vis id = true := by first | assumption | exact seen_two (by omega)) (hA : Arr h sv 1 rows id := by assumption) (hj : rows[j]? = some [v] := by assumption) : WO P X M c (.load1 x) env h K := wo_loadArrE hA hx hs hj hk
theorem zl {x : XV} {sv : AV} {id j esz : Nat} {rows : List (List AV)} {row : List AV} (hk : K (.agg row) h) (hx : evE env x = some (.ptr id (0 + j * esz)) := by exact rfl) (hs : seen c.vis id = true := by first | assumption | exact seen_two (by omega)) (hA : Arr h sv esz rows id := by assumption) (hj : rows[j]? = some row := by assumption) : WO P X M c (.loadN esz x) env h K := wo_loadArrN hA hx hs hj hk
theorem zm {x y : XV} {p : IntKind} {a b : Int} (ht : a < b → K (.bool true) h) (hf : ¬ a < b → K (.bool false) h) (hx : evE env x = some (.int p a) := by exact rfl) (hy : evE env y = some (.int p b) := by exact rfl) : WO P X M c (.ints .lss x y) env h K := wo_lss hx hy ht hf
theorem zo {x y : XV} {p : IntKind} {a b : Int} (ht : b < a → K (.bool true) h) (hf : ¬ b < a → K (.bool false) h) (hx : evE env x = some (.int p a) := by exact rfl) (hy : evE env y = some (.int p b) := by exact rfl) : WO P X M c (.ints .gtr x y) env h K := wo_gtr hx hy ht hf
theorem zp {x y : XV} {p : IntKind} {a b : Int} (ht : b ≤ a → K (.bool true) h) (hf : ¬ b ≤ a → K (.bool false) h) (hx : evE env x = some (.int p a) := by exact rfl) (hy : evE env y = some (.int p b) := by exact rfl) : WO P X M c (.ints .geq x y) env h K := wo_geq hx hy ht hf
theorem zq {neg : Bool} {x y : XV} {p : IntKind} {a b : Int} (ht : a = b → K (.bool (bne true neg)) h) (hf : ¬ a = b → K (.bool (bne false neg)) h) (hx : evE env x = some (.int p a) := by exact rfl) (hy : evE env y = some (.int p b) := by exact rfl) : WO P X M c (.eql (.b .int) neg x y) env h K := wo_eqi hx hy ht hf
theorem zu {v : XV} {a b : SC} {Q : Ex → Env' → H → Prop} (w : WC P X M c nt a env h Q) (hv : evE env v = some (.bool true) := by exact rfl) : WC P X M c nt (.cond v a b) env h Q := wc_t hv w
theorem zv {v : XV} {a b : SC} {Q : Ex → Env' → H → Prop} (w : WC P X M c nt b env h Q) (hv : evE env v = some (.bool false) := by exact rfl) : WC P X M c nt (.cond v a b) env h Q := wc_f hv w
variable {base : List (Nat × Nat)} {i : Nat} {rs : List (Nat × Nat × Nat)} {bs : List (Nat × Tr AB × Tr AB)} {fs : List (Nat × Nat)}
theorem zw {Q : Env' → H → Prop} {g : Option (Nat × Bool)} (w : WO P X M ⟨h.n, [(h.n, big)]⟩ op env h (fun v h' => WD P X M c nt base ops (i + 1) (addR i h.n h'.n rs) bs fs ((d, v) :: env) h' Q)) (hnt : nt ≤ 1000000 := by assumption) (hg : wantsE env g = some true := by exact rfl) (hd : Nat.blt d nt = true := by exact rfl) : WD P X M c nt base (⟨some d, op, g, p, false, b, none⟩ :: ops) i rs bs fs env h Q := rd_pure hnt hg hd w
theorem zx {Q : Env' → H → Prop} {g : Option (Nat × Bool)} {n0 A : Nat} {vis : List (Nat × Nat)} {x : XV} {a : AV} (w : WO P X M ⟨h.n, [(h.n, big), (A, Nat.succ A)]⟩ op env h (fun v h' => WD P X M c nt (cutBase n0 vis) ops (i + 1) (addR i h.n h'.n rs) bs ((i, A) :: fs) ((d, v) :: env) h' Q)) (hnt : nt ≤ 1000000 := by assumption) (hg : wantsE env g = some true := by exact rfl) (hd : Nat.blt d nt = true := by exact rfl) (ha : evE env x = some a := by exact rfl) (hA : footId a = some A := by exact rfl)
  (hr : ∀ r ∈ rs, n0 ≤ r.2.1 := by repeat (first | exact rs_nil | refine rs_add (by first | exact Nat.le_refl _ | omega) ?_)) (hn : n0 ≤ h.n := by first | exact Nat.le_refl _ | omega) (hid : A < n0 := by omega) (hs : seen vis A = true := by assumption) (hun : unchB p A bs = true := by repeat (first | exact unchB_nil | refine unchB_pred (by decide) ?_ | refine unchB_same (by assumption) (by assumption) ?_)) : WD P X M c nt (cutBase n0 vis) (⟨some d, op, g, p, m, b, some x⟩ :: ops) i rs bs fs env h Q := rd_foot hnt hg hd ha hA (seen_old hr hn hid hs) hun w
theorem zy {Q : Env' → H → Prop} {g : Nat × Bool} (w : WD P X M c nt base ops (i + 1) rs bs fs ((d, .tup []) :: env) h Q) (hnt : nt ≤ 1000000 := by assumption) (hg : wantsE env (some g) = some false := by exact rfl) (hd : Nat.blt d nt = true := by exact rfl) : WD P X M c nt base (⟨some d, op, some g, p, m, b, f⟩ :: ops) i rs bs fs env h Q := rd_off hnt hg hd w
theorem zA {id id' : Nat} {Q : Ex → Env' → H → Prop} (w : Q .normal env h) (e : Nat.beq id' id = true := by exact rfl) : outOf id Q (.exit id') env h := out_here e w
theorem zB {id id' : Nat} {Q : Ex → Env' → H → Prop} (w : Q (.exit id') env h) (e : Nat.beq id' id = false := by exact rfl) : outOf id Q (.exit id') env h := out_on e w
def ctlC (P : Program) (X : Exts) (M : Mf) (c : C) (nt : Nat) (x : SC) (env : Env') (h : H) (Q : Ex → Env' → H → Prop) : Option Prop := match x with
 | .seq a b => some (WC P X M c nt a env h (thenQ P X M c nt b Q))
 | .reg ops => some (WG P X M c nt ops env h (Q .normal))
 | .dreg ops => some (WD P X M c nt (cutBase h.n c.vis) ops 0 [] [] [] env h (Q .normal))
 | .block id b => some (WC P X M c nt b env h (outOf id Q))
 | .skip => some (Q .normal env h)
 | .exit id => some (Q (.exit id) env h)
 | .ret => some (Q .ret env h)
 | .cond v a b => match evE env v with
  | some (.bool true) => some (WC P X M c nt a env h Q)
  | some (.bool false) => some (WC P X M c nt b env h Q)
  | _ => none
 | _ => none
theorem Yx {x : SC} {Q : Ex → Env' → H → Prop} {G : Prop} (g : G) (e : ctlC P X M c nt x env h Q = some G := by exact rfl) : WC P X M c nt x env h Q := by
 unfold ctlC at e
 split at e
 ·cases e; exact Yc g
 ·cases e; exact Yd g
 ·cases e; exact Ye g
 ·cases e; exact Yf g
 ·cases e; exact Yg g
 ·cases e; exact Yh g
 ·cases e; exact Yi g
 ·split at e
  ·rename_i q; cases e; exact wc_t q g
  ·rename_i q; cases e; exact wc_f q g
  ·cases e
 ·cases e
def ctlT (P : Program) (X : Exts) (M : Mf) (c : C) (nt : Nat) (b : SC) (Q : Ex → Env' → H → Prop) (e : Ex) (env : Env') (h : H) : Option Prop := match e with
 | .normal => some (WC P X M c nt b env h Q)
 | .exit id => some (Q (.exit id) env h)
 | .ret => some (Q .ret env h)
theorem Yy {b : SC} {Q : Ex → Env' → H → Prop} {x : Ex} {G : Prop} (g : G) (e : ctlT P X M c nt b Q x env h = some G := by exact rfl) : thenQ P X M c nt b Q x env h := by
 unfold ctlT at e
 split at e
 ·cases e; exact Yb g
 ·cases e; exact Yk g
 ·cases e; exact Yj g
def ctlO (id : Nat) (Q : Ex → Env' → H → Prop) (e : Ex) (env : Env') (h : H) : Option Prop := match e with
 | .normal => some (Q .normal env h)
 | .exit id' => bif Nat.beq id' id then some (Q .normal env h) else some (Q (.exit id') env h)
 | .ret => some (Q .ret env h)
theorem Yz {id : Nat} {Q : Ex → Env' → H → Prop} {x : Ex} {G : Prop} (g : G) (e : ctlO id Q x env h = some G := by exact rfl) : outOf id Q x env h := by
 unfold ctlO at e
 split at e
 ·cases e; exact Yl g
 ·rename_i id'
  cases q : Nat.beq id' id with
  | true => rw [q] at e; cases e; exact out_here q g
  | false => rw [q] at e; cases e; exact out_on q g
 ·cases e; exact Ym g
def pureV (o : SO) (env : Env') : Option AV := match o with
 | .mv x => evE env x
 | .faddr o x => match evE env x with
  | some (.ptr id off) => some (.ptr id (off + o))
  | _ => none
 | .nilc x => match evE env x with
  | some (.ptr id off) => some (.ptr id off)
  | _ => none
 | .pick b x y => match evE env b with
  | some (.bool true) => evE env x
  | some (.bool false) => evE env y
  | _ => none
 | .not x => match evE env x with
  | some (.bool b) => some (.bool (!b))
  | _ => none
 | .extr x i => match evE env x with
  | some (.tup vs) => vs[i]?
  | _ => none
 | .build z ps => match partsE env ps z with
  | some l => some (.agg l)
  | none => none
 | _ => none
theorem Yp {v : AV} (hk : K v h) (e : pureV op env = some v := by exact rfl) : WO P X M c op env h K := by
 unfold pureV at e
 split at e
 ·exact wo_mv e hk
 ·split at e
  ·rename_i q; cases e; exact wo_faddr q hk
  ·cases e
 ·split at e
  ·rename_i q; cases e; exact wo_nilc q hk
  ·cases e
 ·split at e
  ·rename_i q; exact wo_pick_t q e hk
  ·rename_i q; exact wo_pick_f q e hk
  ·cases e
 ·split at e
  ·rename_i q; cases e; exact wo_not q hk
  ·cases e
 ·split at e
  ·rename_i q; exact wo_extr q e hk
  ·cases e
 ·split at e
  ·rename_i q; cases e; exact wo_build q hk
  ·cases e
 ·cases e
def ctlG (P : Program) (X : Exts) (M : Mf) (c : C) (nt : Nat) (ops : List SR) (env : Env') (h : H) (Q : Env' → H → Prop) : Option Prop := match ops with
 | [] => some (Q env h)
 | ⟨some d, op, g, _, _, _, _⟩ :: ops => bif Nat.blt d nt then match wantsE env g with
  | some true => some (WO P X M c op env h (fun v h' => WG P X M c nt ops ((d, v) :: env) h' Q))
  | some false => some (WG P X M c nt ops ((d, .tup []) :: env) h Q)
  | none => none
  else none
 | _ => none
theorem Yu {ops : List SR} {Q : Env' → H → Prop} {G : Prop} (g : G) (e : ctlG P X M c nt ops env h Q = some G := by exact rfl) (hnt : nt ≤ 1000000 := by assumption) : WG P X M c nt ops env h Q := by
 unfold ctlG at e
 split at e
 ·cases e; exact Ya g
 ·rename_i d op g0 p m b f ops
  cases hd : Nat.blt d nt with
  | false => rw [hd] at e; cases e
  | true =>
   rw [hd, cond_true] at e
   split at e
   ·rename_i q; cases e; exact rg_go hnt q hd g
   ·rename_i q
    cases e
    cases g0 with
    | none => cases q
    | some g0 => exact rg_off hnt q hd g
   ·cases e
 ·cases e
def ctlD (P : Program) (X : Exts) (M : Mf) (c : C) (nt : Nat) (base : List (Nat × Nat)) (ops : List SR) (i : Nat) (rs : List (Nat × Nat × Nat)) (bs : List (Nat × Tr AB × Tr AB)) (fs : List (Nat × Nat)) (env : Env') (h : H) (Q : Env' → H → Prop) : Option Prop := match ops with
 | [] => some (Q env h)
 | ⟨some d, op, g, _, m, _, f⟩ :: ops => bif Nat.blt d nt then match wantsE env g with
  | some true => match m, f with
   | false, none => some (WO P X M ⟨h.n, [(h.n, big)]⟩ op env h (fun v h' => WD P X M c nt base ops (i + 1) (addR i h.n h'.n rs) bs fs ((d, v) :: env) h' Q))
   | _, _ => none
  | some false => some (WD P X M c nt base ops (i + 1) rs bs fs ((d, .tup []) :: env) h Q)
  | none => none
  else none
 | _ => none
theorem Yv {ops : List SR} {Q : Env' → H → Prop} {G : Prop} (g : G) (e : ctlD P X M c nt base ops i rs bs fs env h Q = some G := by exact rfl) (hnt : nt ≤ 1000000 := by assumption) : WD P X M c nt base ops i rs bs fs env h Q := by
 unfold ctlD at e
 split at e
 ·cases e; exact Yn g
 ·rename_i d op g0 p m b f ops
  cases hd : Nat.blt d nt with
  | false => rw [hd] at e; cases e
  | true =>
   rw [hd, cond_true] at e
   split at e
   ·rename_i q
    split at e
    ·cases e; exact rd_pure hnt q hd g
    ·cases e
   ·rename_i q
    cases e
    cases g0 with
    | none => cases q
    | some g0 => exact rd_off hnt q hd g
   ·cases e
 ·cases e
def cmpV (o : SO) (env : Env') : Option (Prop × Bool × Bool) := match o with
 | .ints f x y => match evE env x, evE env y with
  | some (.int p a), some (.int q b) => bif kindEq p q then match f with
   | .lss => some (a < b, true, false)
   | .gtr => some (b < a, true, false)
   | .geq => some (b ≤ a, true, false)
   | .leq => some (a ≤ b, true, false)
   | _ => none
   else none
  | _, _ => none
 | .eql (.b .int) neg x y => match evE env x, evE env y with
  | some (.int p a), some (.int q b) => bif kindEq p q then some (a = b, bne true neg, bne false neg) else none
  | _, _ => none
 | .eql (.b .str) neg x y => match evE env x, evE env y with
  | some (.str a), some (.str b) => some (a = b, bne true neg, bne false neg)
  | _, _ => none
 | _ => none
theorem kindEq_eq {p q : IntKind} (h : kindEq p q = true) : p = q := of_decide_eq_true h
theorem Yq {p : Prop} {b1 b2 : Bool} (ht : p → K (.bool b1) h) (hf : ¬ p → K (.bool b2) h) (e : cmpV op env = some (p, b1, b2) := by exact rfl) : WO P X M c op env h K := by
 unfold cmpV at e
 split at e
 ·split at e
  ·rename_i f x y _ _ p' a q b hx hy
   cases hk : kindEq p' q with
   | false => rw [hk] at e; cases e
   | true =>
    rw [hk, cond_true] at e
    have := kindEq_eq hk
    subst this
    split at e
    ·cases e; exact wo_lss hx hy ht hf
    ·cases e; exact wo_gtr hx hy ht hf
    ·cases e; exact wo_geq hx hy ht hf
    ·cases e; exact wo_leq hx hy ht hf
    ·cases e
  ·cases e
 ·split at e
  ·rename_i neg x y _ _ p' a q b hx hy
   cases hk : kindEq p' q with
   | false => rw [hk] at e; cases e
   | true =>
    rw [hk, cond_true] at e
    have := kindEq_eq hk
    subst this
    cases e; exact wo_eqi hx hy ht hf
  ·cases e
 ·split at e
  ·rename_i hx hy
   cases e; exact wo_eqs hx hy ht hf
  ·cases e
 ·cases e
end
/-! equality of flat data -/
inductive FlatQ : Sh → SQ → Prop where
 | int : FlatQ (.int .i64) (.b .int)
 | str : FlatQ .str (.b .str)
section
variable {P : Program} {X : Exts} {M : Mf} {c : C} {env : Env'} {h : H} {K : AV → H → Prop}
theorem wo_eqb {neg : Bool} {x y : XV} {a b : Bool} (hx : evE env x = some (.bool a)) (hy : evE env y = some (.bool b)) (ht : a = b → K (.bool (bne true neg)) h) (hf : ¬ a = b → K (.bool (bne false neg)) h) : WO P X M c (.eql (.b .bool) neg x y) env h K := by
 by_cases q : a = b
 ·exact wo_eql hx hy (by simp [SQ.den, SB.den, eqBl, q] : (SQ.b .bool).den (.bool a) (.bool b) = some true) (ht q)
 ·exact wo_eql hx hy (by simp [SQ.den, SB.den, eqBl, q] : (SQ.b .bool).den (.bool a) (.bool b) = some false) (hf q)
theorem zs {neg : Bool} {x y : XV} {a b : List Nat} (ht : a = b → K (.bool (bne true neg)) h) (hf : ¬ a = b → K (.bool (bne false neg)) h) (hx : evE env x = some (.str a) := by exact rfl) (hy : evE env y = some (.str b) := by exact rfl) : WO P X M c (.eql (.b .str) neg x y) env h K := wo_eqs hx hy ht hf
theorem zt {neg : Bool} {x y : XV} {a b : Bool} (ht : a = b → K (.bool (bne true neg)) h) (hf : ¬ a = b → K (.bool (bne false neg)) h) (hx : evE env x = some (.bool a) := by exact rfl) (hy : evE env y = some (.bool b) := by exact rfl) : WO P X M c (.eql (.b .bool) neg x y) env h K := wo_eqb hx hy ht hf
end
theorem unchF_nil {preds : Nat} {t t' : Tr AB} : unchF preds t t' [] = true := rfl
theorem unchF_cons {preds i A : Nat} {t t' : Tr AB} {fs : List (Nat × Nat)} (h : Nat.testBit preds i = true) (h' : unchF preds t t' fs = true) : unchF preds t t' ((i, A) :: fs) = true := by
 simp only [unchF, h, h', Bool.true_or, Bool.and_self]
section
variable {P : Program} {X : Exts} {M : Mf} {c : C} {nt : Nat} {env : Env'} {h : H} {Q : Env' → H → Prop} {base : List (Nat × Nat)} {i : Nat} {rs : List (Nat × Nat × Nat)} {bs : List (Nat × Tr AB × Tr AB)} {fs : List (Nat × Nat)}
variable {n d1 d2 p1 p2 p3 p4 : Nat} {x y : XV} {zs zs' row row' : List AV} {v u : AV}
theorem rd_bs (hnt : nt ≤ 1000000) (hlow : c.floor ≤ h.n) (hn : h.n < 10000000)
  (hsee : evE ((d1, .ptr h.n 0) :: env) (.tmp d1) = some (.ptr h.n 0)) (hx : evE ((d1, .ptr h.n 0) :: env) x = some v) (hc : v.cells = row) (hz : zs.length = n) (hr : row.length = n) (ho : ones row = true) (hb : Nat.testBit p3 i = true)
  (hF : ∀ (h1 h2 : H), (∀ j, j < h.n → h1.get j = h.get j) → (∀ j, j < h.n → h2.get j = h.get j) → unchF p3 h1.t h2.t fs = true)
  (w : ∀ h2, h2.n = h.n + 1 → h2.get h.n = some (.cells row) → Grew h h2 → Q ((d1, .ptr h.n 0) :: env) h2) :
  WO P X M ⟨h.n, [(h.n, big)]⟩ (.box (.const (.agg zs))) env h (fun v h' => WD P X M c nt base [⟨none, .store n (.tmp d1) x, none, p3, true, true, none⟩] (i + 1) (addR i h.n h'.n rs) bs fs ((d1, v) :: env) h' Q) := by
 subst hc
 refine wo_boxA rfl rfl hn fun h1 e1 hb1 g1 => ?_
 refine rd_bar0 hnt rfl (wo_storeA hsee hx hlow (seen_hit hb (Nat.le_refl _) (by omega) (by omega)) hb1 hr ho (by show 0 + n ≤ zs.length; omega) hn (splice_all (by show zs.length = _; omega)) fun h2 e2 hb2 k2 => ⟨hF h1 h2 g1.get (fun j hj => (k2 j (by omega)).trans (g1.get j hj)), Yn ?_⟩)
 exact w h2 (by omega) hb2 ⟨by omega, fun j hj => (k2 j (by omega)).trans (g1.get j hj)⟩
end
end Go.Proofs.YtmdceifbbmnfgaaGreatDoor.Ev
set_option maxHeartbeats 4000000
namespace Go.Proofs.YtmdceifbbmnfgaaGreatDoor.Ev
open Go
abbrev ShField : Sh := .row [.str, .str]
abbrev ShSig : Sh := .row [.str, .bool, (.arr .str), .str]
abbrev ShClass : Sh := .row [.str, .str, (.arr ShField), (.arr ShSig)]
abbrev ShHier : Sh := .row [(.arr ShClass)]
abbrev ShInstr : Sh := .row [(.int .i64), (.int .i64), (.int .i64), (.int .i64), (.int .i64), .str, .str, (.arr (.int .i64)), (.int .i64), (.int .i64)]
abbrev ShFunc : Sh := .row [.str, .str, .bool, (.int .i64), (.arr ShField), .str, (.arr ShInstr)]
abbrev ShUnit : Sh := .row [ShHier, (.arr ShFunc), (.int .i64)]
theorem rpd_Field {B : Nat} {h : H} {d : Dt} {cs : List AV} (q : Rp B true h ShField d cs) : ∃ a3 : List Nat, ∃ a5 : List Nat, d = .row [.str a3, .str a5] ∧ cs = [.str a3, .str a5] := by
 obtain ⟨_, rfl, qr1⟩ := rp_row q
 obtain ⟨_, _, _, _, rfl, rfl, qe2, qt2⟩ := rpL_cons qr1
 obtain ⟨a3, rfl, rfl⟩ := rp_str qe2
 obtain ⟨_, _, _, _, rfl, rfl, qe4, qt4⟩ := rpL_cons qt2
 obtain ⟨a5, rfl, rfl⟩ := rp_str qe4
 obtain ⟨rfl, rfl⟩ := rpL_nil qt4
 exact ⟨a3, a5, rfl, rfl⟩
theorem rpd_Sig {B : Nat} {h : H} {d : Dt} {cs : List AV} (q : Rp B true h ShSig d cs) : ∃ a3 : List Nat, ∃ a5 : Bool, ∃ a7 : List Dt, ∃ av7 : AV, ∃ a9 : List Nat, d = .row [.str a3, .bool a5, .arr a7, .str a9] ∧ cs = [.str a3, .bool a5, av7, .str a9] ∧ (a7.length ≤ B ∨ Sh.cnt B .str = 0) ∧ Sl B true h .str a7 av7 := by
 obtain ⟨_, rfl, qr1⟩ := rp_row q
 obtain ⟨_, _, _, _, rfl, rfl, qe2, qt2⟩ := rpL_cons qr1
 obtain ⟨a3, rfl, rfl⟩ := rp_str qe2
 obtain ⟨_, _, _, _, rfl, rfl, qe4, qt4⟩ := rpL_cons qt2
 obtain ⟨a5, rfl, rfl⟩ := rp_bool qe4
 obtain ⟨_, _, _, _, rfl, rfl, qe6, qt6⟩ := rpL_cons qt4
 obtain ⟨a7, av7, rfl, rfl, al7, as7⟩ := rp_arrT qe6
 obtain ⟨_, _, _, _, rfl, rfl, qe8, qt8⟩ := rpL_cons qt6
 obtain ⟨a9, rfl, rfl⟩ := rp_str qe8
 obtain ⟨rfl, rfl⟩ := rpL_nil qt8
 exact ⟨a3, a5, a7, av7, a9, rfl, rfl, al7, as7⟩
theorem rpd_Class {B : Nat} {h : H} {d : Dt} {cs : List AV} (q : Rp B true h ShClass d cs) : ∃ a3 : List Nat, ∃ a5 : List Nat, ∃ a7 : List Dt, ∃ av7 : AV, ∃ a9 : List Dt, ∃ av9 : AV, d = .row [.str a3, .str a5, .arr a7, .arr a9] ∧ cs = [.str a3, .str a5, av7, av9] ∧ (a7.length ≤ B ∨ Sh.cnt B ShField = 0) ∧ Sl B true h ShField a7 av7 ∧ (a9.length ≤ B ∨ Sh.cnt B ShSig = 0) ∧ Sl B true h ShSig a9 av9 := by
 obtain ⟨_, rfl, qr1⟩ := rp_row q
 obtain ⟨_, _, _, _, rfl, rfl, qe2, qt2⟩ := rpL_cons qr1
 obtain ⟨a3, rfl, rfl⟩ := rp_str qe2
 obtain ⟨_, _, _, _, rfl, rfl, qe4, qt4⟩ := rpL_cons qt2
 obtain ⟨a5, rfl, rfl⟩ := rp_str qe4
 obtain ⟨_, _, _, _, rfl, rfl, qe6, qt6⟩ := rpL_cons qt4
 obtain ⟨a7, av7, rfl, rfl, al7, as7⟩ := rp_arrT qe6
 obtain ⟨_, _, _, _, rfl, rfl, qe8, qt8⟩ := rpL_cons qt6
 obtain ⟨a9, av9, rfl, rfl, al9, as9⟩ := rp_arrT qe8
 obtain ⟨rfl, rfl⟩ := rpL_nil qt8
 exact ⟨a3, a5, a7, av7, a9, av9, rfl, rfl, al7, as7, al9, as9⟩
theorem rpd_Instr {B : Nat} {h : H} {d : Dt} {cs : List AV} (q : Rp B true h ShInstr d cs) : ∃ a3 : Int, ∃ a5 : Int, ∃ a7 : Int, ∃ a9 : Int, ∃ a11 : Int, ∃ a13 : List Nat, ∃ a15 : List Nat, ∃ a17 : List Dt, ∃ av17 : AV, ∃ a19 : Int, ∃ a21 : Int, d = .row [.int a3, .int a5, .int a7, .int a9, .int a11, .str a13, .str a15, .arr a17, .int a19, .int a21] ∧ cs = [.int .i64 a3, .int .i64 a5, .int .i64 a7, .int .i64 a9, .int .i64 a11, .str a13, .str a15, av17, .int .i64 a19, .int .i64 a21] ∧ (a17.length ≤ B ∨ Sh.cnt B (.int .i64) = 0) ∧ Sl B true h (.int .i64) a17 av17 := by
 obtain ⟨_, rfl, qr1⟩ := rp_row q
 obtain ⟨_, _, _, _, rfl, rfl, qe2, qt2⟩ := rpL_cons qr1
 obtain ⟨a3, rfl, rfl⟩ := rp_int qe2
 obtain ⟨_, _, _, _, rfl, rfl, qe4, qt4⟩ := rpL_cons qt2
 obtain ⟨a5, rfl, rfl⟩ := rp_int qe4
 obtain ⟨_, _, _, _, rfl, rfl, qe6, qt6⟩ := rpL_cons qt4
 obtain ⟨a7, rfl, rfl⟩ := rp_int qe6
 obtain ⟨_, _, _, _, rfl, rfl, qe8, qt8⟩ := rpL_cons qt6
 obtain ⟨a9, rfl, rfl⟩ := rp_int qe8
 obtain ⟨_, _, _, _, rfl, rfl, qe10, qt10⟩ := rpL_cons qt8
 obtain ⟨a11, rfl, rfl⟩ := rp_int qe10
 obtain ⟨_, _, _, _, rfl, rfl, qe12, qt12⟩ := rpL_cons qt10
 obtain ⟨a13, rfl, rfl⟩ := rp_str qe12
 obtain ⟨_, _, _, _, rfl, rfl, qe14, qt14⟩ := rpL_cons qt12
 obtain ⟨a15, rfl, rfl⟩ := rp_str qe14
 obtain ⟨_, _, _, _, rfl, rfl, qe16, qt16⟩ := rpL_cons qt14
 obtain ⟨a17, av17, rfl, rfl, al17, as17⟩ := rp_arrT qe16
 obtain ⟨_, _, _, _, rfl, rfl, qe18, qt18⟩ := rpL_cons qt16
 obtain ⟨a19, rfl, rfl⟩ := rp_int qe18
 obtain ⟨_, _, _, _, rfl, rfl, qe20, qt20⟩ := rpL_cons qt18
 obtain ⟨a21, rfl, rfl⟩ := rp_int qe20
 obtain ⟨rfl, rfl⟩ := rpL_nil qt20
 exact ⟨a3, a5, a7, a9, a11, a13, a15, a17, av17, a19, a21, rfl, rfl, al17, as17⟩
theorem rpd_Func {B : Nat} {h : H} {d : Dt} {cs : List AV} (q : Rp B true h ShFunc d cs) : ∃ a3 : List Nat, ∃ a5 : List Nat, ∃ a7 : Bool, ∃ a9 : Int, ∃ a11 : List Dt, ∃ av11 : AV, ∃ a13 : List Nat, ∃ a15 : List Dt, ∃ av15 : AV, d = .row [.str a3, .str a5, .bool a7, .int a9, .arr a11, .str a13, .arr a15] ∧ cs = [.str a3, .str a5, .bool a7, .int .i64 a9, av11, .str a13, av15] ∧ (a11.length ≤ B ∨ Sh.cnt B ShField = 0) ∧ Sl B true h ShField a11 av11 ∧ (a15.length ≤ B ∨ Sh.cnt B ShInstr = 0) ∧ Sl B true h ShInstr a15 av15 := by
 obtain ⟨_, rfl, qr1⟩ := rp_row q
 obtain ⟨_, _, _, _, rfl, rfl, qe2, qt2⟩ := rpL_cons qr1
 obtain ⟨a3, rfl, rfl⟩ := rp_str qe2
 obtain ⟨_, _, _, _, rfl, rfl, qe4, qt4⟩ := rpL_cons qt2
 obtain ⟨a5, rfl, rfl⟩ := rp_str qe4
 obtain ⟨_, _, _, _, rfl, rfl, qe6, qt6⟩ := rpL_cons qt4
 obtain ⟨a7, rfl, rfl⟩ := rp_bool qe6
 obtain ⟨_, _, _, _, rfl, rfl, qe8, qt8⟩ := rpL_cons qt6
 obtain ⟨a9, rfl, rfl⟩ := rp_int qe8
 obtain ⟨_, _, _, _, rfl, rfl, qe10, qt10⟩ := rpL_cons qt8
 obtain ⟨a11, av11, rfl, rfl, al11, as11⟩ := rp_arrT qe10
 obtain ⟨_, _, _, _, rfl, rfl, qe12, qt12⟩ := rpL_cons qt10
 obtain ⟨a13, rfl, rfl⟩ := rp_str qe12
 obtain ⟨_, _, _, _, rfl, rfl, qe14, qt14⟩ := rpL_cons qt12
 obtain ⟨a15, av15, rfl, rfl, al15, as15⟩ := rp_arrT qe14
 obtain ⟨rfl, rfl⟩ := rpL_nil qt14
 exact ⟨a3, a5, a7, a9, a11, av11, a13, a15, av15, rfl, rfl, al11, as11, al15, as15⟩
section
variable {B : Nat} {fl : Bool} {h : H} {d : Dt} {cs : List AV} {e : Sh} {sv : AV}
theorem rp_arrF (q : Rp B fl h (.arr e) d cs) : ∃ d' sv, d' = d ∧ cs = [sv] ∧ Rp B fl h (.arr e) d' [sv] := by
 rcases rp_arr.1 q with ⟨l, sv, rfl, rfl, _⟩ | ⟨_, n, oa, cp, rfl, rfl, _⟩
 ·exact ⟨_, sv, rfl, rfl, q⟩
 ·exact ⟨_, _, rfl, rfl, q⟩
theorem rp_in (q : Rp B fl h (.arr e) d [sv]) (hl : d.len ≤ B) : ∃ l, d = .arr l ∧ l.length ≤ B ∧ Sl B fl h e l sv := by
 rcases rp_arr.1 q with ⟨l, s, rfl, e1, _, q⟩ | ⟨_, n, oa, cp, rfl, _, hb, _⟩
 ·cases e1
  exact ⟨l, rfl, hl, q⟩
 ·have : n ≤ B := hl
  omega
theorem rp_in0 (hc : e.cnt B = 0) (q : Rp B fl h (.arr e) d [sv]) : ∃ l, d = .arr l ∧ Sl B fl h e l sv := by
 rcases rp_arr.1 q with ⟨l, s, rfl, e1, _, q⟩ | ⟨_, n, oa, cp, rfl, _, _, hb, _⟩
 ·cases e1
  exact ⟨l, rfl, q⟩
 ·exact absurd hc hb
end
section
variable {P : Program} {X : Exts} {M : Mf} {c : C} {h : H} {K : AV → H → Prop} {env : Env'}
theorem zL {B : Nat} {fl : Bool} {h0 : H} {e : Sh} {d : Dt} {sv : AV} {x : XV} (hk : K (.int .i64 (d.len : Int)) h) (hx : evE env x = some sv := by exact rfl) (hr : Rp B fl h0 (.arr e) d [sv] := by assumption) : WO P X M c (.lenL x) env h K := by
 rcases rp_arr.1 hr with ⟨l, s, rfl, e1, _, q⟩ | ⟨_, n, oa, cp, rfl, e1, _⟩
 ·cases e1
  obtain ⟨id, rows, _, A, e2, _⟩ := q.out
  have hk' : K (.int .i64 (rows.length : Int)) h := by rw [e2]; exact hk
  exact z6 hk' hx A
 ·cases e1
  exact wo_lenLr hx hk
theorem zP {x y : XV} {p : IntKind} {a b : Int} (ht : a ≤ b → K (.bool true) h) (hf : ¬ a ≤ b → K (.bool false) h) (hx : evE env x = some (.int p a) := by exact rfl) (hy : evE env y = some (.int p b) := by exact rfl) : WO P X M c (.ints .leq x y) env h K := wo_leq hx hy ht hf
end
/-! data without slices that are not looked into -/
theorem nb_i {k : IntKind} {d : Dt} : nb (.int k) d := by simp only [nb]
theorem nb_s {d : Dt} : nb .str d := by simp only [nb]
theorem nb_b {d : Dt} : nb .bool d := by simp only [nb]
theorem nb_row {l : List Sh} {ds : List Dt} (q : nbL l ds) : nb (.row l) (.row ds) := by simpa only [nb, Dt.l] using q
theorem nbL_n {ds : List Dt} : nbL [] ds := by simp only [nbL]
theorem nbL_c {s : Sh} {l : List Sh} {d : Dt} {ds : List Dt} (q1 : nb s d) (q2 : nbL l ds) : nbL (s :: l) (d :: ds) := by
 simp only [nbL]
 exact ⟨q1, q2⟩
theorem nb_arr {e : Sh} {l : List Dt} (q : ∀ i, i < l.length → nb e (l.getD i (.int 0))) : nb (.arr e) (.arr l) := by
 simp only [nb, Dt.l]
 refine ⟨⟨l, rfl⟩, fun i x hx => ?_⟩
 have hi : i < l.length := by
  rcases Nat.lt_or_ge i l.length with h | h
  ·exact h
  ·rw [List.getElem?_eq_none h] at hx; cases hx
 have := q i hi
 rwa [List.getD_eq_getElem?_getD, hx] at this
theorem nb_arrC {e : Sh} {l : List Dt} {n : Nat} (hn : ¬ n < l.length) (q : ∀ i, i < n → nb e (l.getD i (.int 0))) : nb (.arr e) (.arr l) := nb_arr fun i hi => q i (by omega)
mutual
theorem nb_cnt0 {B : Nat} : ∀ (e : Sh), e.cnt B = 0 → ∀ d, nb e d
 | .int _, _, _ => by simp only [nb]
 | .str, _, _ => by simp only [nb]
 | .bool, _, _ => by simp only [nb]
 | .arr e, q, _ => by simp only [Sh.cnt] at q; generalize B * Sh.cnt B e = z at q; omega
 | .row l, q, d => by
  simp only [nb]
  simp only [Sh.cnt] at q
  exact nbL_cnt0 l q d.l
theorem nbL_cnt0 {B : Nat} : ∀ (l : List Sh), cntL B l = 0 → ∀ ds, nbL l ds
 | [], _, _ => by simp only [nbL]
 | s :: l, q, ds => by
  simp only [cntL] at q
  cases ds with
  | nil => simp only [nbL]
  | cons d ds => exact nbL_c (nb_cnt0 (B := B) s (by omega) d) (nbL_cnt0 (B := B) l (by omega) ds)
end
mutual
def shallow (B : Nat) : Sh → Prop
 | .row l => shallowL B l
 | .arr e => e.cnt B = 0
 | .int _ => True
 | .str => True
 | .bool => True
def shallowL (B : Nat) : List Sh → Prop
 | [] => True
 | s :: l => shallow B s ∧ shallowL B l
end
mutual
theorem nb_shallow {B : Nat} {fl : Bool} {h : H} : ∀ {e : Sh} {d : Dt} {cs : List AV}, shallow B e → Rp B fl h e d cs → nb e d
 | .int _, _, _, _, _ => nb_i
 | .str, _, _, _, _ => nb_s
 | .bool, _, _, _, _ => nb_b
 | .row l, d, cs, hs, q => by
  simp only [shallow] at hs
  obtain ⟨ds, rfl, q'⟩ := rp_row q
  exact nb_row (nbL_shallow hs q')
 | .arr e, d, cs, hs, q => by
  simp only [shallow] at hs
  obtain ⟨d', sv, rfl, rfl, q'⟩ := rp_arrF q
  obtain ⟨l, rfl, _⟩ := rp_in0 hs q'
  exact nb_arr fun i _ => nb_cnt0 e hs _
theorem nbL_shallow {B : Nat} {fl : Bool} {h : H} : ∀ {l : List Sh} {ds : List Dt} {cs : List AV}, shallowL B l → RpL B fl h l ds cs → nbL l ds
 | [], _, _, _, _ => nbL_n
 | s :: l, ds, cs, hs, q => by
  simp only [shallowL] at hs
  obtain ⟨d, ds', a, b, rfl, rfl, q1, q2⟩ := rpL_cons q
  exact nbL_c (nb_shallow hs.1 q1) (nbL_shallow hs.2 q2)
end
theorem nb_arrS {B : Nat} {fl : Bool} {h : H} {e : Sh} {l : List Dt} {sv : AV} (hs : shallow B e) (q : Sl B fl h e l sv) : nb (.arr e) (.arr l) := by
 obtain ⟨id, rows, _, _, e2, p⟩ := q.out
 refine nb_arr fun i hi => ?_
 have m1 : l[i]? = some (l.getD i (.int 0)) := by simp [hi]
 exact nb_shallow hs (p i _ _ m1 (List.getElem?_eq_getElem (by omega)))
theorem rpf_Sig {B : Nat} {fl : Bool} {h : H} {d : Dt} {cs : List AV} (q : Rp B fl h ShSig d cs) : ∃ a3 : List Nat, ∃ a5 : Bool, ∃ a7 : Dt, ∃ av7 : AV, ∃ a9 : List Nat, d = .row [.str a3, .bool a5, a7, .str a9] ∧ cs = [.str a3, .bool a5, av7, .str a9] ∧ Rp B fl h (.arr .str) a7 [av7] := by
 obtain ⟨_, rfl, qr1⟩ := rp_row q
 obtain ⟨_, _, _, _, rfl, rfl, qe2, qt2⟩ := rpL_cons qr1
 obtain ⟨a3, rfl, rfl⟩ := rp_str qe2
 obtain ⟨_, _, _, _, rfl, rfl, qe4, qt4⟩ := rpL_cons qt2
 obtain ⟨a5, rfl, rfl⟩ := rp_bool qe4
 obtain ⟨_, _, _, _, rfl, rfl, qe6, qt6⟩ := rpL_cons qt4
 obtain ⟨a7, av7, rfl, rfl, ar7⟩ := rp_arrF qe6
 obtain ⟨_, _, _, _, rfl, rfl, qe8, qt8⟩ := rpL_cons qt6
 obtain ⟨a9, rfl, rfl⟩ := rp_str qe8
 obtain ⟨rfl, rfl⟩ := rpL_nil qt8
 exact ⟨a3, a5, a7, av7, a9, rfl, rfl, ar7⟩
theorem rpf_Class {B : Nat} {fl : Bool} {h : H} {d : Dt} {cs : List AV} (q : Rp B fl h ShClass d cs) : ∃ a3 : List Nat, ∃ a5 : List Nat, ∃ a7 : Dt, ∃ av7 : AV, ∃ a9 : Dt, ∃ av9 : AV, d = .row [.str a3, .str a5, a7, a9] ∧ cs = [.str a3, .str a5, av7, av9] ∧ Rp B fl h (.arr ShField) a7 [av7] ∧ Rp B fl h (.arr ShSig) a9 [av9] := by
 obtain ⟨_, rfl, qr1⟩ := rp_row q
 obtain ⟨_, _, _, _, rfl, rfl, qe2, qt2⟩ := rpL_cons qr1
 obtain ⟨a3, rfl, rfl⟩ := rp_str qe2
 obtain ⟨_, _, _, _, rfl, rfl, qe4, qt4⟩ := rpL_cons qt2
 obtain ⟨a5, rfl, rfl⟩ := rp_str qe4
 obtain ⟨_, _, _, _, rfl, rfl, qe6, qt6⟩ := rpL_cons qt4
 obtain ⟨a7, av7, rfl, rfl, ar7⟩ := rp_arrF qe6
 obtain ⟨_, _, _, _, rfl, rfl, qe8, qt8⟩ := rpL_cons qt6
 obtain ⟨a9, av9, rfl, rfl, ar9⟩ := rp_arrF qe8
 obtain ⟨rfl, rfl⟩ := rpL_nil qt8
 exact ⟨a3, a5, a7, av7, a9, av9, rfl, rfl, ar7, ar9⟩
theorem rpf_Instr {B : Nat} {fl : Bool} {h : H} {d : Dt} {cs : List AV} (q : Rp B fl h ShInstr d cs) : ∃ a3 : Int, ∃ a5 : Int, ∃ a7 : Int, ∃ a9 : Int, ∃ a11 : Int, ∃ a13 : List Nat, ∃ a15 : List Nat, ∃ a17 : Dt, ∃ av17 : AV, ∃ a19 : Int, ∃ a21 : Int, d = .row [.int a3, .int a5, .int a7, .int a9, .int a11, .str a13, .str a15, a17, .int a19, .int a21] ∧ cs = [.int .i64 a3, .int .i64 a5, .int .i64 a7, .int .i64 a9, .int .i64 a11, .str a13, .str a15, av17, .int .i64 a19, .int .i64 a21] ∧ Rp B fl h (.arr (.int .i64)) a17 [av17] := by
 obtain ⟨_, rfl, qr1⟩ := rp_row q
 obtain ⟨_, _, _, _, rfl, rfl, qe2, qt2⟩ := rpL_cons qr1
 obtain ⟨a3, rfl, rfl⟩ := rp_int qe2
 obtain ⟨_, _, _, _, rfl, rfl, qe4, qt4⟩ := rpL_cons qt2
 obtain ⟨a5, rfl, rfl⟩ := rp_int qe4
 obtain ⟨_, _, _, _, rfl, rfl, qe6, qt6⟩ := rpL_cons qt4
 obtain ⟨a7, rfl, rfl⟩ := rp_int qe6
 obtain ⟨_, _, _, _, rfl, rfl, qe8, qt8⟩ := rpL_cons qt6
 obtain ⟨a9, rfl, rfl⟩ := rp_int qe8
 obtain ⟨_, _, _, _, rfl, rfl, qe10, qt10⟩ := rpL_cons qt8
 obtain ⟨a11, rfl, rfl⟩ := rp_int qe10
 obtain ⟨_, _, _, _, rfl, rfl, qe12, qt12⟩ := rpL_cons qt10
 obtain ⟨a13, rfl, rfl⟩ := rp_str qe12
 obtain ⟨_, _, _, _, rfl, rfl, qe14, qt14⟩ := rpL_cons qt12
 obtain ⟨a15, rfl, rfl⟩ := rp_str qe14
 obtain ⟨_, _, _, _, rfl, rfl, qe16, qt16⟩ := rpL_cons qt14
 obtain ⟨a17, av17, rfl, rfl, ar17⟩ := rp_arrF qe16
 obtain ⟨_, _, _, _, rfl, rfl, qe18, qt18⟩ := rpL_cons qt16
 obtain ⟨a19, rfl, rfl⟩ := rp_int qe18
 obtain ⟨_, _, _, _, rfl, rfl, qe20, qt20⟩ := rpL_cons qt18
 obtain ⟨a21, rfl, rfl⟩ := rp_int qe20
 obtain ⟨rfl, rfl⟩ := rpL_nil qt20
 exact ⟨a3, a5, a7, a9, a11, a13, a15, a17, av17, a19, a21, rfl, rfl, ar17⟩
theorem rpf_Func {B : Nat} {fl : Bool} {h : H} {d : Dt} {cs : List AV} (q : Rp B fl h ShFunc d cs) : ∃ a3 : List Nat, ∃ a5 : List Nat, ∃ a7 : Bool, ∃ a9 : Int, ∃ a11 : Dt, ∃ av11 : AV, ∃ a13 : List Nat, ∃ a15 : Dt, ∃ av15 : AV, d = .row [.str a3, .str a5, .bool a7, .int a9, a11, .str a13, a15] ∧ cs = [.str a3, .str a5, .bool a7, .int .i64 a9, av11, .str a13, av15] ∧ Rp B fl h (.arr ShField) a11 [av11] ∧ Rp B fl h (.arr ShInstr) a15 [av15] := by
 obtain ⟨_, rfl, qr1⟩ := rp_row q
 obtain ⟨_, _, _, _, rfl, rfl, qe2, qt2⟩ := rpL_cons qr1
 obtain ⟨a3, rfl, rfl⟩ := rp_str qe2
 obtain ⟨_, _, _, _, rfl, rfl, qe4, qt4⟩ := rpL_cons qt2
 obtain ⟨a5, rfl, rfl⟩ := rp_str qe4
 obtain ⟨_, _, _, _, rfl, rfl, qe6, qt6⟩ := rpL_cons qt4
 obtain ⟨a7, rfl, rfl⟩ := rp_bool qe6
 obtain ⟨_, _, _, _, rfl, rfl, qe8, qt8⟩ := rpL_cons qt6
 obtain ⟨a9, rfl, rfl⟩ := rp_int qe8
 obtain ⟨_, _, _, _, rfl, rfl, qe10, qt10⟩ := rpL_cons qt8
 obtain ⟨a11, av11, rfl, rfl, ar11⟩ := rp_arrF qe10
 obtain ⟨_, _, _, _, rfl, rfl, qe12, qt12⟩ := rpL_cons qt10
 obtain ⟨a13, rfl, rfl⟩ := rp_str qe12
 obtain ⟨_, _, _, _, rfl, rfl, qe14, qt14⟩ := rpL_cons qt12
 obtain ⟨a15, av15, rfl, rfl, ar15⟩ := rp_arrF qe14
 obtain ⟨rfl, rfl⟩ := rpL_nil qt14
 exact ⟨a3, a5, a7, a9, a11, av11, a13, a15, av15, rfl, rfl, ar11, ar15⟩
theorem rpf_Unit {B : Nat} {fl : Bool} {h : H} {d : Dt} {cs : List AV} (q : Rp B fl h ShUnit d cs) : ∃ a5 : Dt, ∃ av5 : AV, ∃ a7 : Dt, ∃ av7 : AV, ∃ a9 : Int, d = .row [.row [a5], a7, .int a9] ∧ cs = [av5, av7, .int .i64 a9] ∧ Rp B fl h (.arr ShClass) a5 [av5] ∧ Rp B fl h (.arr ShFunc) a7 [av7] := by
 obtain ⟨_, rfl, qr1⟩ := rp_row q
 obtain ⟨_, _, _, _, rfl, rfl, qe2, qt2⟩ := rpL_cons qr1
 obtain ⟨_, rfl, qe2r3⟩ := rp_row qe2
 obtain ⟨_, _, _, _, rfl, rfl, qe2e4, qe2t4⟩ := rpL_cons qe2r3
 obtain ⟨a5, av5, rfl, rfl, ar5⟩ := rp_arrF qe2e4
 obtain ⟨rfl, rfl⟩ := rpL_nil qe2t4
 obtain ⟨_, _, _, _, rfl, rfl, qe6, qt6⟩ := rpL_cons qt2
 obtain ⟨a7, av7, rfl, rfl, ar7⟩ := rp_arrF qe6
 obtain ⟨_, _, _, _, rfl, rfl, qe8, qt8⟩ := rpL_cons qt6
 obtain ⟨a9, rfl, rfl⟩ := rp_int qe8
 obtain ⟨rfl, rfl⟩ := rpL_nil qt8
 exact ⟨a5, av5, a7, av7, a9, rfl, rfl, ar5, ar7⟩
section
variable {P : Program} {X : Exts} {M : Mf} {c : C} {h : H} {K : AV → H → Prop} {env : Env'}
theorem asNat_ofNat {p : IntKind} {n : Nat} : asNat (.int p (n : Int)) = some n := rfl
theorem zI {x i : XV} {s : List Nat} {p : IntKind} {z : Int} (hk : K (.int .u8 ((s.getD z.toNat 0 : Nat) : Int)) h) (hx : evE env x = some (.str s) := by exact rfl) (hi : evE env i = some (.int p z) := by exact rfl) (h0 : 0 ≤ z := by omega) (hl : z < (s.length : Int) := by omega) : WO P X M c (.idxS x i) env h K :=
 wo_of (fun sl hs call k => by
  obtain ⟨n, rfl⟩ := Int.eq_ofNat_of_zero_le h0
  have hn : n < s.length := by omega
  have e : nth n s = some (s.getD n 0) := by rw [nth_eq]; simp [hn]
  simp only [SO.den, oIdxS, hs.ev hx, hs.ev hi]
  show (match asNat (.int p (n : Int)) with | some i => _ | none => none) = _
  rw [asNat_ofNat]
  simp only [e]
  rfl) hk
theorem zH {x i : XV} {s : List Nat} {p : IntKind} {j : Nat} (hk : K (.int .u8 ((s.getD j 0 : Nat) : Int)) h) (hx : evE env x = some (.str s) := by exact rfl) (hi : evE env i = some (.int p (j : Int)) := by exact rfl) (hl : j < s.length := by omega) : WO P X M c (.idxS x i) env h K := zI hk hx hi
theorem zJ {x : XV} {s : List Nat} (hk : K (.int .i64 (s.length : Int)) h) (hx : evE env x = some (.str s) := by exact rfl) : WO P X M c (.lenS x) env h K := wo_lenS hx hk
theorem zK {x y : XV} {a b : List Nat} (hk : K (.bool (ltL a b)) h) (hx : evE env x = some (.str a) := by exact rfl) (hy : evE env y = some (.str b) := by exact rfl) : WO P X M c (.scmp .lss x y) env h K :=
 wo_of (fun sl hs call k => by simp only [SO.den, oScmp, SS.den, sLss, hs.ev hx, hs.ev hy, boolK, forceBool_eq]) hk
theorem zU {esz : Nat} {x i : XV} {id off n es j : Nat} {cap : Option Nat} {p : IntKind} (hk : K (.ptr id (off + j * esz)) h) (hx : evE env x = some (.sl id off n es cap) := by exact rfl) (hi : evE env i = some (.int p (j : Int)) := by exact rfl) (hj : j < n := by omega) : WO P X M c (.iaddr esz x i) env h K := wo_iaddr hx hi rfl hj hk
theorem wo_appRaw {esz : Nat} {s x : XV} {v : AV} {oa : Option Addr} {cp : Nat} (hs0 : evE env s = some v) (hv : v = .nils ∨ ∃ id off m cap, v = .sl id off m esz cap) (hx : evE env x = some (.raw oa 0 cp)) (hk : K v h) : WO P X M c (.append esz s x) env h K :=
 wo_of (fun sl hs call k => by
  have e0 : ∀ k : Nat → List AV → Out, srcK c h esz (.raw oa 0 cp) k = k 0 [] := fun k => rfl
  simp only [SO.den, oAppend, hs.ev hs0, hs.ev hx, e0]
  rcases hv with rfl | ⟨id, off, m, cap, rfl⟩
  ·rfl
  ·have hb : Nat.beq esz esz = true := by simp
   simp only [ones, cond, ontoK, hb]) hk
theorem zV {x : XV} (hk : K (.int .i64 0) h) (hx : evE env x = some .nils := by exact rfl) : WO P X M c (.lenL x) env h K := wo_lenL0 hx hk
theorem zQ {x y : XV} {p : IntKind} {a b : Int} (ht : a ≤ b → K (.bool true) h) (hf : ¬ a ≤ b → K (.bool false) h) (hx : evE env x = some (.int p a) := by exact rfl) (hy : evE env y = some (.int p b) := by exact rfl) : WO P X M c (.ints .leq x y) env h K := wo_leq hx hy ht hf
theorem zM {x : XV} {p : IntKind} {z : Int} (hn : h.n < 10000000) (hk : K (.mp h.n) (h.new (.map [] 0))) (hx : evE env x = some (.int p z) := by exact rfl) : WO P X M c (.mkmapH x) env h K := wo_of (fun sl hs call k => by simp only [SO.den, oMkmapH, hs.ev hx, newB_eq hn]) hk
theorem zN {x : XV} {s : List Nat} {lo : XV} {p : IntKind} {l : Nat} (hk : K (.str (s.drop l)) h) (hx : evE env x = some (.str s) := by exact rfl) (hlo : evE env lo = some (.int p (l : Int)) := by exact rfl) (hl : l ≤ s.length := by omega) : WO P X M c (.sliceS x (some lo) none) env h K :=
 wo_of (fun sl hs call k => by
  have e1 : optNat sl 0 (some lo) = some l := by
   show asNat (evV sl lo) = some l
   rw [hs.ev hlo]
   rfl
  have e2 : optNat sl (lenN s) none = some s.length := by
   unfold optNat
   rw [lenN_eq]
  simp only [SO.den, oSliceS, hs.ev hx]
  rw [e1, e2]
  simp only [lenN_eq, Nat.ble_eq_true_of_le hl, Nat.ble_eq_true_of_le (Nat.le_refl _), Bool.and_self, cond]
  rw [dropK_eq _ _ _ (by omega), takeK_eq _ _ _ (by simp)]
  have : (s.drop l).take (Nat.sub s.length l) = s.drop l := List.take_of_length_le (by simp)
  rw [this]) hk
end
section
variable {P : Program} {X : Exts} {M : Mf} {c : C} {nt : Nat} {env : Env'} {h : H}
theorem WG.less {ops : List SR} {env1 : Env'} {Q : Env' → H → Prop} (w : WG P X M c nt ops env1 h Q) (hs : Sub' env1 env) : WG P X M c nt ops env h Q := .mk fun sl hh => w.run sl (hh.less hs)
theorem wo_tail {ι : Type} {op : SO} {d : Nat} {ops : List SR} {Q : Env' → H → Prop} (n : Nat) (E : ι → Env') (S : ι → H → Prop) (w2 : ∀ i h1, S i h1 → WG P X M c nt (ops.drop n) (E i) h1 Q) (w1 : (∀ i h1 env1, Sub' (E i) env1 → S i h1 → WG P X M c nt (ops.drop n) env1 h1 Q) → WO P X M c op env h (fun v h' => WG P X M c nt ops ((d, v) :: env) h' Q)) : WO P X M c op env h (fun v h' => WG P X M c nt ops ((d, v) :: env) h' Q) :=
 w1 fun i h1 env1 hs hS => (w2 i h1 hS).less hs
end
end Go.Proofs.YtmdceifbbmnfgaaGreatDoor.Ev
