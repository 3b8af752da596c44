/- Symbolic runs of the evaluator: contracts, arrays, maps, plain data. -/
import Derived.Test.YtmdceifbbmnfgaaGreatDoorSyA
import Derived.Test.YtmdceifbbmnfgaaGreatDoorEvX
set_option linter.unusedVariables false
set_option linter.unusedSimpArgs false
namespace Go.Proofs.YtmdceifbbmnfgaaGreatDoor.Ev
open Go Go.RowKit
section
variable {P : Program} {X : Exts} {M : Mf}
theorem gvB_fn {c : C} {nt : Nat} {h : H} {f : Nat} {args : List AV} {res : List (Nat × Option (Option Nat))} {s : SC} {K : AV → H → Prop} (ht : tblX P X f = some (.fn ⟨nt, res, s.den⟩)) (hl : args.length ≤ nt) (hnt : nt ≤ 1000000)
  (w : WC P X M c nt s (argE args 0 []) h (fun e env h' => (e = .normal ∨ e = .ret) ∧ ∃ vs, resE c h' env res = some vs ∧ K (retV vs) h')) : ∃ v h', Gives P X M c (.fnB f) args h v h' ∧ K v h' := by
 obtain ⟨e, sl1, h1, env1, ⟨N, hN⟩, hs1, he, vs, hr, hk⟩ := w.run (setAll args 0 .nil) (has_args args 0 .nil [] (Has.nil _) (by omega))
 refine ⟨retV vs, h1, ⟨N + 2, fun n hn => ?_⟩, hk⟩
 cases n with
 | zero => omega
 | succ n =>
  show (match tblX P X f with | some (.fn x) => stepF (ev (cC P) (tblX P X) M n) c args h (some (.fn x)) | _ => .bad) = _
  rw [ht]
  show (bif Nat.ble (lenN args) nt then slotsOf args 0 .nil fun sl => endRes c res (ev (cC P) (tblX P X) M n c (.code nt false s.den sl []) h) else .bad) = _
  rw [lenN_eq, Nat.ble_eq_true_of_le hl]
  simp only [cond, slotsOf_eq]
  rw [hN n (by omega)]
  rcases he with rfl | rfl
  ·simp only [endRes, shutD]
   rw [resE_ok hs1 hr, retRes_eq]
  ·simp only [endRes, shutD]
   rw [resE_ok hs1 hr, retRes_eq]
theorem top_of (hmx : P.follows .mixedOrders = true) (hNG : ∀ (f : Nat) (fn : Func), P.funcs[f]? = some fn → (fn.name == "runtime.NumGoroutine") = false) (hX : ExtOk P X) (hM : MemoOk P P.globals.size M) {f : Nat} {args : List AV} {v : AV} {h0 h' : H}
  (hg : Gives P X M (top h0.n) (.fnB f) args h0 v h') (hwf : WF h0) {β : Bet} {w : World} (hgb : GB P.globals.size β) (hr : HR h0.n β (view (top h0.n) h0) w) (hdom : ∀ id, h0.n ≤ id → β id = none) {cargs : List Value} (hv : VRs β args cargs) :
  Calls P f cargs.toArray w fun e w' => ∃ β' val, e = .returned val ∧ VR β' v val ∧ Sub β β' ∧ Below w.heap.size w w' := by
 obtain ⟨N, hN⟩ := hg
 exact ev_top hmx hNG hX hM (hN N (Nat.le_refl _)) hwf hgb hr hdom hv
/-! a closed example, called inside a run: its answer is known -/
def MK (f : Nat) (G : List (Nat × AB)) : Mf := fun g args c h => bif Nat.beq g f then match args with
  | [] => bif G.all (fun p => eqOB (getB c h p.1) (some p.2)) then some (.bool true, h) else none
  | _ => none
 else none
theorem MK_other {f g : Nat} {G : List (Nat × AB)} (hne : Nat.beq g f = false) (args : List AV) (c : C) (h : H) : MK f G g args c h = none := by unfold MK; rw [hne]; rfl
theorem cCell_inj {β : Bet} {v u : Value} {x : AV} (hc : cCell v = some x) (hu : VR β x u) : u = v := by
 unfold cCell at hc
 split at hc <;> first | (cases hc; done) | skip
 all_goals first
  | (simp only [Option.some.injEq] at hc; subst hc; simp only [VR] at hu; first | exact hu | skip)
  | skip
 ·obtain ⟨b, rfl, hb⟩ := hu
  rename_i s
  congr 1
  have inj : ∀ (l m : List UInt8), l.map UInt8.toNat = m.map UInt8.toNat → l = m := fun l m q => List.map_inj_right (fun a b e => UInt8.toNat_inj.1 e) |>.1 q
  have := inj _ _ hb
  cases b; cases s
  simp only [ByteArray.mk.injEq]
  exact Array.toList_inj.1 this
 ·split at hc
  ·rename_i f first caps hh
   simp only [Bool.and_eq_true, Array.isEmpty_iff] at hh
   obtain ⟨h1, h2⟩ := hh
   subst h1 h2
   cases hc
   simp only [VR, VRs] at hu
   obtain ⟨cs, rfl, hcs⟩ := hu
   have : cs = #[] := by simpa using hcs
   rw [this]
  ·cases hc
def cG (p : Nat × List Value) : Option (Nat × AB) := (p.2.mapM cCell).map fun a => (p.1, AB.cells a)
theorem mapM_get {α β : Type} {f : α → Option β} : ∀ {l : List α} {r : List β}, l.mapM f = some r → ∀ (i : Nat) (a : α), l[i]? = some a → ∃ b, r[i]? = some b ∧ f a = some b
 | [], r, e, i, a, h => by simp at h
 | x :: l, r, e, i, a, h => by
  simp only [List.mapM_cons, Option.bind_eq_bind, Option.bind_eq_some_iff, Option.pure_def, Option.some.injEq] at e
  obtain ⟨y, h1, ys, h2, rfl⟩ := e
  cases i with
  | zero => simp at h; subst h; exact ⟨y, by simp, h1⟩
  | succ i => simpa using mapM_get h2 i a (by simpa using h)
theorem mapM_mem {α β : Type} {f : α → Option β} {l : List α} {r : List β} (e : l.mapM f = some r) {a : α} (ha : a ∈ l) : ∃ b ∈ r, f a = some b := by
 obtain ⟨i, hi, rfl⟩ := List.mem_iff_getElem.1 ha
 obtain ⟨b, h1, h2⟩ := mapM_get e i l[i] (by simp [hi])
 exact ⟨b, List.mem_of_getElem? h1, h2⟩
end
end Go.Proofs.YtmdceifbbmnfgaaGreatDoor.Ev
namespace Go.Proofs.YtmdceifbbmnfgaaGreatDoor.Ev
open Go
structure Arr (h : H) (sv : AV) (esz : Nat) (rows : List (List AV)) (id : Nat) : Prop where
 at_ : (rows = [] ∧ (sv = .nils ∨ ∃ oa cp, sv = .raw oa 0 cp)) ∨ (0 < rows.length ∧ (∃ cap, sv = .sl id 0 rows.length esz cap) ∧ id < h.n ∧ ∃ vs, h.get id = some (.cells vs) ∧ rows.length * esz ≤ vs.length ∧ ∀ i row, rows[i]? = some row → (vs.drop (i * esz)).take esz = row)
theorem Arr.grew {h h' : H} {sv : AV} {esz : Nat} {rows : List (List AV)} {id : Nat} (a : Arr h sv esz rows id) (hg : Grew h h') : Arr h' sv esz rows id := by
 rcases a.at_ with q | ⟨q1, q2, q3, vs, q4, q5⟩
 ·exact ⟨Or.inl q⟩
 ·exact ⟨Or.inr ⟨q1, q2, Nat.lt_of_lt_of_le q3 hg.le, vs, (hg.get id q3).trans q4, q5⟩⟩
theorem Arr.keep {h h' : H} {sv : AV} {esz : Nat} {rows : List (List AV)} {id : Nat} (a : Arr h sv esz rows id) (hle : h.n ≤ h'.n) (hg : id < h.n → h'.get id = h.get id) : Arr h' sv esz rows id := by
 rcases a.at_ with q | ⟨q1, q2, q3, vs, q4, q5⟩
 ·exact ⟨Or.inl q⟩
 ·exact ⟨Or.inr ⟨q1, q2, Nat.lt_of_lt_of_le q3 hle, vs, (hg q3).trans q4, q5⟩⟩
section
variable {P : Program} {X : Exts} {M : Mf} {c : C} {env : Env'} {h : H} {K : AV → H → Prop}
theorem wo_lenArr {x : XV} {h0 : H} {sv : AV} {esz id : Nat} {rows : List (List AV)} (hA : Arr h0 sv esz rows id) (hx : evE env x = some sv) (hk : K (.int .i64 (rows.length : Int)) h) : WO P X M c (.lenL x) env h K := by
 rcases hA.at_ with ⟨rfl, rfl | ⟨oa, cp, rfl⟩⟩ | ⟨_, ⟨cap, rfl⟩, _⟩
 ·exact wo_lenL0 hx hk
 ·exact wo_lenLr hx hk
 ·exact wo_lenL hx hk
theorem wo_iaddrArr {esz : Nat} {x i : XV} {h0 : H} {sv : AV} {id j : Nat} {p : IntKind} {z : Int} {rows : List (List AV)} (hA : Arr h0 sv esz rows id) (hx : evE env x = some sv) (hi : evE env i = some (.int p z)) (hz : z = (j : Int)) (hj : j < rows.length) (hk : K (.ptr id (0 + j * esz)) h) : WO P X M c (.iaddr esz x i) env h K := by
 rcases hA.at_ with ⟨rfl, _⟩ | ⟨_, ⟨cap, rfl⟩, _⟩
 ·simp at hj
 ·exact wo_iaddr hx hi hz hj hk
theorem row_get {vs row : List AV} {j esz o : Nat} {v : AV} (h : (vs.drop (j * esz)).take esz = row) (ho : row[o]? = some v) : vs[0 + j * esz + o]? = some v := by
 subst h
 rw [List.getElem?_take] at ho
 split at ho
 ·rw [List.getElem?_drop] at ho
  rw [Nat.zero_add]; exact ho
 ·cases ho
theorem wo_loadArr1 {x : XV} {sv : AV} {id j esz o : Nat} {rows : List (List AV)} {row : List AV} {v : AV} (hA : Arr h sv esz rows id) (hx : evE env x = some (.ptr id (0 + j * esz + o))) (hs : seen c.vis id = true) (hj : rows[j]? = some row) (ho : row[o]? = some v) (hk : K v h) : WO P X M c (.load1 x) env h K := by
 rcases hA.at_ with ⟨rfl, _⟩ | ⟨_, _, _, vs, hg, _, hr⟩
 ·simp at hj
 ·exact wo_load1 hx hs hg (row_get (hr j row hj) ho) hk
theorem wo_loadArrN {x : XV} {sv : AV} {id j esz : Nat} {rows : List (List AV)} {row : List AV} (hA : Arr h sv esz rows id) (hx : evE env x = some (.ptr id (0 + j * esz))) (hs : seen c.vis id = true) (hj : rows[j]? = some row) (hk : K (.agg row) h) : WO P X M c (.loadN esz x) env h K := by
 rcases hA.at_ with ⟨rfl, _⟩ | ⟨_, _, _, vs, hg, hl, hr⟩
 ·simp at hj
 ·have hlt : j < rows.length := by
   rcases Nat.lt_or_ge j rows.length with q | q
   ·exact q
   ·rw [List.getElem?_eq_none q] at hj; cases hj
  have : (j + 1) * esz ≤ rows.length * esz := Nat.mul_le_mul_right _ hlt
  exact wo_loadN hx hs hg (by rw [Nat.succ_mul] at this; omega) (by rw [Nat.zero_add]; exact hr j row hj) hk
end
/-! flat values: the same whatever the places -/
inductive Flat : AV → Value → Prop where
 | int (k : IntKind) (n : Int) : Flat (.int k n) (.int k n)
 | bool (b : Bool) : Flat (.bool b) (.bool b)
 | str (s : ByteArray) : Flat (.str (s.data.toList.map UInt8.toNat)) (.string s)
 | raw (oa : Option Addr) (n cp : Nat) : Flat (.raw oa n cp) (.slice oa n cp)
theorem Flat.vr {a : AV} {v : Value} (h : Flat a v) (β : Bet) : VR β a v := by
 cases h with
 | int k n => simp [VR]
 | bool b => simp [VR]
 | str s => simp [VR]
 | raw oa n cp => simp [VR]
def rawOf : Value → AV
 | .slice oa n cp => .raw oa n cp
 | _ => .nils
def slAV (id esz : Nat) (rows : List (List AV)) (v : Value) : AV := if rows = [] then rawOf v else .sl id 0 rows.length esz none
def slLoc (v : Value) (esz : Nat) : Loc := match v with
 | .slice (some a) _ cp => ⟨a.block, a.off, a.off + cp * esz, dv⟩
 | _ => ⟨0, 0, 0, dv⟩
theorem flatten_get {esz : Nat} : ∀ {rows : List (List AV)}, (∀ row ∈ rows, row.length = esz) → ∀ (i : Nat) (row : List AV), rows[i]? = some row → (rows.flatten.drop (i * esz)).take esz = row
 | [], _, i, row, h => by simp at h
 | r :: rows, hl, i, row, h => by
  have h0 := hl r (by simp)
  cases i with
  | zero =>
   simp at h; subst h
   simp [List.take_append, h0]
  | succ i =>
   have := flatten_get (rows := rows) (fun q hq => hl q (by simp [hq])) i row (by simpa using h)
   rw [List.flatten_cons, List.drop_append, Nat.succ_mul, h0]
   have e1 : (r.drop (i * esz + esz)) = [] := List.drop_eq_nil_of_le (by omega)
   have e2 : i * esz + esz - esz = i * esz := by omega
   rw [e1, e2, List.nil_append]; exact this
theorem flatten_len {esz : Nat} : ∀ {rows : List (List AV)}, (∀ row ∈ rows, row.length = esz) → rows.flatten.length = rows.length * esz
 | [], _ => by simp
 | r :: rows, hl => by
  rw [List.flatten_cons, List.length_append, flatten_len (fun q hq => hl q (by simp [hq])), hl r (by simp), List.length_cons, Nat.succ_mul]; omega
section
variable {P : Program} {X : Exts} {M : Mf} {c : C} {nt : Nat} {env : Env'} {h : H} {K : AV → H → Prop} {ops : List SR}
theorem wo_storeA {n : Nat} {a x : XV} {id off : Nat} {vs new : List AV} {v : AV} (ha : evE env a = some (.ptr id off)) (hx : evE env x = some v) (hf : c.floor ≤ id) (hs : seen c.vis id = true) (hg : h.get id = some (.cells vs)) (hn : v.cells.length = n) (ho : ones v.cells = true) (hl : off + n ≤ vs.length) (hid : id < 10000000) (hnew : splice off v.cells vs = new)
  (hk : ∀ h', h'.n = h.n → h'.get id = some (.cells new) → (∀ j, j ≠ id → h'.get j = h.get j) → K (.tup []) h') : WO P X M c (.store n a x) env h K := by
 subst hnew
 exact wo_store ha hx hf hs hg hn ho hl (hk _ rfl (get_put_same hid _) (fun j hj => get_put_other hid _ (Ne.symm hj)))
theorem splice_all {row zs : List AV} (h : zs.length = row.length) : splice 0 row zs = row := by
 unfold splice
 rw [List.take_zero, List.nil_append, Nat.zero_add, List.drop_eq_nil_of_le (by omega), List.append_nil]
section
variable {Q : Env' → H → Prop} {n d p1 p2 p3 : Nat} {m1 b1 m2 b2 m3 b3 : Bool} {f1 f2 f3 : Option XV} {x y : XV} {zs row : List AV} {v u : AV}
theorem rg_bs (hnt : nt ≤ 1000000) (hcx : Cx c h) (hn : h.n < 10000000) (hsee : evE ((d, .ptr h.n 0) :: env) (.tmp d) = some (.ptr h.n 0)) (hx : evE ((d, .ptr h.n 0) :: env) x = some v) (hc : v.cells = row) (hz : zs.length = n) (hr : row.length = n) (ho : ones row = true)
  (w : ∀ h2, h2.n = h.n + 1 → h2.get h.n = some (.cells row) → Grew h h2 → WG P X M c nt ops ((d, .ptr h.n 0) :: env) h2 Q) :
  WO P X M c (.box (.const (.agg zs))) env h (fun v h' => WG P X M c nt (⟨none, .store n (.tmp d) x, none, p2, m2, b2, f2⟩ :: ops) ((d, v) :: env) h' Q) := by
 subst hc
 refine wo_boxA rfl rfl hn fun h1 e1 hb1 g1 => ?_
 refine rg_go0 hnt rfl (wo_storeA hsee hx hcx.low (hcx.new (Nat.le_refl _) hn) hb1 hr ho (by show 0 + n ≤ zs.length; omega) hn (splice_all (by show zs.length = _; omega)) fun h2 e2 hb2 k2 => ?_)
 exact w h2 (by omega) hb2 ⟨by omega, fun j hj => (k2 j (by omega)).trans (g1.get j hj)⟩
theorem rg_bs1 {e : Nat} (hnt : nt ≤ 1000000) (he : Nat.blt e nt = true) (hcx : Cx c h) (hn : h.n < 10000000) (hy : evE ((d, .ptr h.n 0) :: env) y = some u) (hsee : evE ((e, u) :: (d, .ptr h.n 0) :: env) (.tmp d) = some (.ptr h.n 0)) (hx : evE ((e, u) :: (d, .ptr h.n 0) :: env) x = some v) (hc : v.cells = row) (hz : zs.length = n) (hr : row.length = n) (ho : ones row = true)
  (w : ∀ h2, h2.n = h.n + 1 → h2.get h.n = some (.cells row) → Grew h h2 → WG P X M c nt ops ((e, u) :: (d, .ptr h.n 0) :: env) h2 Q) :
  WO P X M c (.box (.const (.agg zs))) env h (fun v h' => WG P X M c nt (⟨some e, .mv y, none, p3, m3, b3, f3⟩ :: ⟨none, .store n (.tmp d) x, none, p2, m2, b2, f2⟩ :: ops) ((d, v) :: env) h' Q) := by
 subst hc
 refine wo_boxA rfl rfl hn fun h1 e1 hb1 g1 => ?_
 refine rg_go hnt rfl he (wo_mv hy ?_)
 refine rg_go0 hnt rfl (wo_storeA hsee hx hcx.low (hcx.new (Nat.le_refl _) hn) hb1 hr ho (by show 0 + n ≤ zs.length; omega) hn (splice_all (by show zs.length = _; omega)) fun h2 e2 hb2 k2 => ?_)
 exact w h2 (by omega) hb2 ⟨by omega, fun j hj => (k2 j (by omega)).trans (g1.get j hj)⟩
end
theorem wo_iaddrZ {esz : Nat} {x i : XV} {h0 : H} {sv : AV} {id : Nat} {p : IntKind} {z : Int} {rows : List (List AV)} (hA : Arr h0 sv esz rows id) (hx : evE env x = some sv) (hi : evE env i = some (.int p z)) (hz : 0 ≤ z) (hj : z < rows.length) (hk : K (.ptr id (0 + z.toNat * esz)) h) : WO P X M c (.iaddr esz x i) env h K :=
 wo_iaddrArr hA hx hi (by omega) (by omega) hk
/-! arrays: their cells -/
theorem rows_flat {esz : Nat} : ∀ (rows : List (List AV)) (vs : List AV), rows.length * esz ≤ vs.length → (∀ i row, rows[i]? = some row → (vs.drop (i * esz)).take esz = row) → vs.take (rows.length * esz) = rows.flatten
 | [], vs, _, _ => by simp
 | r :: rows, vs, hl, hr => by
  have h0 := hr 0 r rfl
  simp only [Nat.zero_mul, List.drop_zero] at h0
  rw [List.length_cons, Nat.succ_mul] at hl
  have ih := rows_flat (esz := esz) rows (vs.drop esz) (by rw [List.length_drop]; omega) fun i row hi => by
   have := hr (i + 1) row (by simpa using hi)
   rw [List.drop_drop, Nat.add_comm esz, ← Nat.succ_mul]; exact this
  rw [List.length_cons, Nat.succ_mul, Nat.add_comm, List.take_add, h0, ih, List.flatten_cons]
theorem Arr.full {sv : AV} {esz id : Nat} {rows : List (List AV)} (a : Arr h sv esz rows id) (hp : 0 < rows.length) : (∃ cap, sv = .sl id 0 rows.length esz cap) ∧ id < h.n ∧ (∃ vs, h.get id = some (.cells vs) ∧ rows.length * esz ≤ vs.length ∧ vs.take (rows.length * esz) = rows.flatten) ∧ ∀ row ∈ rows, row.length = esz := by
 rcases a.at_ with ⟨rfl, _⟩ | ⟨_, q2, q3, vs, q4, q5, q6⟩
 ·simp at hp
 ·refine ⟨q2, q3, ⟨vs, q4, q5, rows_flat _ _ q5 q6⟩, fun row hm => ?_⟩
  obtain ⟨i, hi, rfl⟩ := List.mem_iff_getElem.1 hm
  have e := q6 i _ (List.getElem?_eq_getElem hi)
  have : (i + 1) * esz ≤ rows.length * esz := Nat.mul_le_mul_right _ hi
  rw [Nat.succ_mul] at this
  rw [← e, List.length_take, List.length_drop]
  omega
theorem Arr.mk' {esz id : Nat} {cap : Option Nat} {rows : List (List AV)} {vs : List AV} (hp : 0 < rows.length) (hlt : id < h.n) (hg : h.get id = some (.cells vs)) (hv : vs = rows.flatten) (hl : ∀ row ∈ rows, row.length = esz) : Arr h (.sl id 0 rows.length esz cap) esz rows id := by
 subst hv
 exact ⟨Or.inr ⟨hp, ⟨cap, rfl⟩, hlt, _, hg, by rw [flatten_len hl]; exact Nat.le_refl _, fun i row hi => flatten_get hl i row hi⟩⟩
theorem Arr.take {sv : AV} {esz id : Nat} {rows : List (List AV)} (a : Arr h sv esz rows id) {m : Nat} (hm : 0 < m) (hle : m ≤ rows.length) {cap : Option Nat} : Arr h (.sl id 0 m esz cap) esz (rows.take m) id := by
 rcases a.at_ with ⟨rfl, _⟩ | ⟨_, q2, q3, vs, q4, q5, q6⟩
 ·simp at hle; omega
 ·have hl : (rows.take m).length = m := by rw [List.length_take]; omega
  refine ⟨Or.inr ⟨by omega, ⟨cap, by rw [hl]⟩, q3, vs, q4, ?_, fun i row hi => ?_⟩⟩
  ·rw [hl]
   exact Nat.le_trans (Nat.mul_le_mul_right _ hle) q5
  ·rw [List.getElem?_take] at hi
   split at hi
   ·exact q6 i row hi
   ·cases hi
theorem wo_appArr {esz : Nat} {s x : XV} {sv xv : AV} {rows news : List (List AV)} {id xid : Nat} (hs0 : evE env s = some sv) (hx : evE env x = some xv) (hA : Arr h sv esz rows id) (hnr : rows ≠ [] ∨ sv = .nils) (hX : Arr h xv esz news xid) (hp : 0 < news.length) (hsx : seen c.vis xid = true) (ho : ones news.flatten = true)
  (hs' : rows ≠ [] → seen c.vis id = true ∧ c.floor ≤ id) (hsz : rows.length + news.length ≤ 1000000) (hn : h.n < 10000000)
  (hk : ∀ h' sv', Arr h' sv' esz (rows ++ news) h.n → h'.n = h.n + 1 → (∀ j, j < h.n → (rows ≠ [] → j ≠ id) → h'.get j = h.get j) → K sv' h') : WO P X M c (.append esz s x) env h K := by
 obtain ⟨⟨capx, rfl⟩, hxlt, ⟨vx, hgx, hlx, htx⟩, hrx⟩ := hX.full hp
 have hux : (vx.drop 0).take (news.length * esz) = news.flatten := by rw [List.drop_zero]; exact htx
 by_cases hr : rows = []
 ·subst hr
  rcases hnr with q | rfl
  ·exact absurd rfl q
  ·refine wo_app0 hs0 hx hsx hgx rfl (by omega) hux ho hp (by simp at hsz; omega) hn ?_
   refine hk _ _ ?_ rfl fun j hj _ => get_new_old hn _ hj
   simp only [List.nil_append]
   exact Arr.mk' hp (by rw [new_n]; omega) (get_new_same hn _) rfl hrx
 ·have hpr : 0 < rows.length := List.length_pos_iff.2 hr
  obtain ⟨⟨cap, rfl⟩, hlt, ⟨vs, hg, hl, ht⟩, hrr⟩ := hA.full hpr
  have hus : (vs.drop 0).take (rows.length * esz) = rows.flatten := by rw [List.drop_zero]; exact ht
  have hall : ∀ row ∈ rows ++ news, row.length = esz := fun row hm => by
   rcases List.mem_append.1 hm with q | q
   ·exact hrr row q
   ·exact hrx row q
  have hlen : (rows ++ news).length = rows.length + news.length := List.length_append
  cases hc : sureGrow cap (rows.length + news.length) with
  | true =>
   refine wo_appG hs0 hx hsx hgx rfl (by omega) hux ho hp (hs' hr).1 hg rfl (by omega) hus hc (by omega) hn ?_
   refine hk _ _ ?_ rfl fun j hj _ => get_new_old hn _ hj
   rw [← hlen]
   exact Arr.mk' (by omega) (by rw [new_n]; omega) (get_new_same hn _) (by rw [List.flatten_append]) hall
  | false =>
   refine wo_app hs0 hx hsx hgx rfl (by omega) hux ho hp (hs' hr).1 (hs' hr).2 hg rfl (by omega) hus hc (by omega) hn ?_
   refine hk _ _ ?_ rfl fun j hj hne => ?_
   ·rw [← hlen]
    exact Arr.mk' (by omega) (by rw [new_n, put_n]; omega) (get_new_same (h := h.put id .dead) hn _) (by rw [List.flatten_append]) hall
   ·rw [get_new_old (h := h.put id .dead) hn _ (by rw [put_n]; exact hj), get_put_other (by omega) _ (Ne.symm (hne hr))]
end
/-! what is seen in a region that draws -/
theorem seen_hit {preds n a b j id : Nat} {base : List (Nat × Nat)} {rs : List (Nat × Nat × Nat)} (hp : Nat.testBit preds j = true) (h1 : a ≤ id) (h2 : id < b) (hn : id < n) : seen ((n, big) :: visOf preds base (addR j a b rs)) id = true := by
 refine seen_cons hn ?_
 unfold addR
 have : Nat.beq a b = false := by rw [beq_dec]; simp; omega
 rw [this]
 simp only [cond, visOf, hp]
 exact seen_here h1 h2
theorem unchF_same {preds A i : Nat} {h1 h2 : H} {vs : List AV} {fs : List (Nat × Nat)} (q1 : h1.get A = some (.cells vs)) (q2 : h2.get A = some (.cells vs)) (h' : unchF preds h1.t h2.t fs = true) : unchF preds h1.t h2.t ((i, A) :: fs) = true := by
 have e : eqOB (Tr.get h1.t A) (Tr.get h2.t A) = true := by
  have a1 : Tr.get h1.t A = some (.cells vs) := q1
  have a2 : Tr.get h2.t A = some (.cells vs) := q2
  rw [a1, a2]
  simp only [eqOB, eqAB, eqAVs_refl]
 simp only [unchF, e, h', Bool.or_true, Bool.and_self]
/-! maps as functions -/
def fnd {κ : Type} [DecidableEq κ] (a : κ) : List (κ × AV × Nat) → Option (Nat × AV)
 | [] => none
 | p :: l => if a = p.1 then some (0, p.2.1) else (fnd a l).map fun q => (q.1 + 1, q.2)
def mpL {κ : Type} (ky : κ → AV) (l : List (κ × AV × Nat)) : List (AV × AV × Nat) := l.map fun p => (ky p.1, p.2.1, p.2.2)
structure Mp {κ : Type} [DecidableEq κ] (ky : κ → AV) (h : H) (id : Nat) (f : κ → Option AV) : Prop where
 ex : ∃ (l : List (κ × AV × Nat)) (clock : Nat), h.get id = some (.map (mpL ky l) clock) ∧ ∀ a, f a = (fnd a l).map Prod.snd
theorem Mp.keep {κ : Type} [DecidableEq κ] {ky : κ → AV} {h h' : H} {id : Nat} {f : κ → Option AV} (m : Mp ky h id f) (e : h'.get id = h.get id) : Mp ky h' id f := by
 obtain ⟨l, ck, h1, h2⟩ := m.ex
 exact ⟨l, ck, e.trans h1, h2⟩
theorem Mp.cong {κ : Type} [DecidableEq κ] {ky : κ → AV} {h : H} {id : Nat} {f g : κ → Option AV} (m : Mp ky h id f) (e : ∀ a, f a = g a) : Mp ky h id g := by
 obtain ⟨l, ck, h1, h2⟩ := m.ex
 exact ⟨l, ck, h1, fun a => (e a).symm.trans (h2 a)⟩
theorem Mp.nil {κ : Type} [DecidableEq κ] {ky : κ → AV} {h : H} {id : Nat} (hg : h.get id = some (.map [] 0)) : Mp ky h id fun _ => none := ⟨[], 0, hg, fun _ => rfl⟩
section
variable {κ : Type} [DecidableEq κ] {ky : κ → AV} {eq : EqF}
theorem findE_fnd (hq : ∀ a b, eq (ky a) (ky b) = some (decide (a = b))) (a : κ) : ∀ (l : List (κ × AV × Nat)) (j : Nat), findE eq (ky a) (mpL ky l) j = some ((fnd a l).map fun q => (j + q.1, q.2))
 | [], j => rfl
 | p :: l, j => by
  simp only [mpL, List.map_cons, findE, hq, fnd]
  by_cases e : a = p.1
  ·rw [if_pos e, decide_eq_true e]; simp
  ·rw [if_neg e, decide_eq_false e]
   have := findE_fnd hq a l (j + 1)
   simp only [mpL] at this
   simp only
   rw [show Nat.succ j = j + 1 from rfl, this]
   cases fnd a l with
   | none => rfl
   | some q => simp; omega
def updK (a : κ) (u : AV) : List (κ × AV × Nat) → List (κ × AV × Nat)
 | [] => []
 | p :: l => if a = p.1 then (p.1, u, p.2.2) :: l else p :: updK a u l
theorem fnd_upd (a : κ) (u : AV) (b : κ) : ∀ (l : List (κ × AV × Nat)), fnd a l ≠ none → (fnd b (updK a u l)).map Prod.snd = if b = a then some u else (fnd b l).map Prod.snd
 | [], hne => absurd rfl hne
 | p :: l, hne => by
  simp only [fnd] at hne
  by_cases e : a = p.1
  ·simp only [updK, if_pos e, fnd]
   by_cases e2 : b = p.1
   ·rw [if_pos e2, if_pos (e2.trans e.symm)]; rfl
   ·rw [if_neg e2, if_neg (fun q => e2 (q.trans e)), if_neg e2]
  ·rw [if_neg e] at hne
   have ih := fnd_upd a u b l (fun q => hne (by rw [q]; rfl))
   simp only [updK, if_neg e, fnd]
   by_cases e2 : b = p.1
   ·rw [if_pos e2, if_pos e2, if_neg (fun q => e (q.symm.trans e2))]
   ·rw [if_neg e2, if_neg e2, Option.map_map, Option.map_map]
    exact ih
theorem fnd_set (a : κ) (u : AV) : ∀ (l : List (κ × AV × Nat)) (i : Nat) (v : AV), fnd a l = some (i, v) → ∃ hi : i < (mpL ky l).length, (mpL ky l).set i ((mpL ky l)[i].1, u, (mpL ky l)[i].2.2) = mpL ky (updK a u l)
 | [], i, v, h => by cases h
 | p :: l, i, v, h => by
  simp only [fnd] at h
  by_cases e : a = p.1
  ·rw [if_pos e] at h; cases h
   refine ⟨by simp [mpL], ?_⟩
   simp [mpL, updK, if_pos e]
  ·rw [if_neg e] at h
   cases hf : fnd a l with
   | none => rw [hf] at h; cases h
   | some q =>
    rw [hf] at h
    simp only [Option.map_some, Option.some.injEq, Prod.mk.injEq] at h
    obtain ⟨rfl, rfl⟩ := h
    obtain ⟨hi, e2⟩ := fnd_set a u l q.1 q.2 hf
    refine ⟨by simpa [mpL] using hi, ?_⟩
    simp only [mpL, updK, if_neg e, List.map_cons, List.set_cons_succ, List.getElem_cons_succ] at e2 ⊢
    rw [e2]
theorem fnd_app (a b : κ) (u : AV) (ck : Nat) : ∀ (l : List (κ × AV × Nat)), fnd a l = none → (fnd b (l ++ [(a, u, ck)])).map Prod.snd = if b = a then some u else (fnd b l).map Prod.snd
 | [], _ => by
  simp only [List.nil_append, fnd]
  by_cases e : b = a
  ·rw [if_pos e, if_pos e]; rfl
  ·rw [if_neg e, if_neg e]; rfl
 | p :: l, h => by
  simp only [fnd] at h
  by_cases e : a = p.1
  ·rw [if_pos e] at h; cases h
  ·rw [if_neg e] at h
   have hl : fnd a l = none := by
    cases hf : fnd a l with
    | none => rfl
    | some q => rw [hf] at h; cases h
   have ih := fnd_app a b u ck l hl
   simp only [List.cons_append, fnd]
   by_cases e2 : b = p.1
   ·rw [if_pos e2, if_pos e2, if_neg (fun q => e (q.symm.trans e2))]
   ·rw [if_neg e2, if_neg e2, Option.map_map, Option.map_map]
    exact ih
variable {P : Program} {X : Exts} {M : Mf} {c : C} {env : Env'} {h : H} {K : AV → H → Prop}
def lookM (ok : Bool) (z : AV) : Option AV → AV
 | some v => lookV ok v true
 | none => lookV ok z false
theorem wo_lookupM {q : SQ} {z : AV} {x key : XV} {ok : Bool} {a : κ} {id : Nat} {f : κ → Option AV} (m : Mp ky h id f) (hq : ∀ a b, q.den (ky a) (ky b) = some (decide (a = b))) (hx : evE env x = some (.mp id)) (hkey : evE env key = some (ky a)) (hs : seen c.vis id = true) (hk : K (lookM ok z (f a)) h) : WO P X M c (.lookup q z x key ok) env h K := by
 obtain ⟨l, ck, hg, hf⟩ := m.ex
 refine wo_lookup hx hkey (by rw [hq]; simp) hs hg (findE_fnd hq a l 0) ?_
 rw [hf a] at hk
 cases hfa : fnd a l with
 | none => rw [hfa] at hk; exact hk
 | some p => rw [hfa] at hk; exact hk
theorem wo_mapupM {q : SQ} {x key y : XV} {a : κ} {u : AV} {id : Nat} {f : κ → Option AV} (m : Mp ky h id f) (hq : ∀ a b, q.den (ky a) (ky b) = some (decide (a = b))) (hx : evE env x = some (.mp id)) (hkey : evE env key = some (ky a)) (hy : evE env y = some u) (hfl : c.floor ≤ id) (hs : seen c.vis id = true) (hid : id < 10000000)
  (hk : ∀ h', h'.n = h.n → Mp ky h' id (fun b => if b = a then some u else f b) → (∀ j, j ≠ id → h'.get j = h.get j) → K (.tup []) h') : WO P X M c (.mapup q x key y) env h K := by
 obtain ⟨l, ck, hg, hf⟩ := m.ex
 have hfind := findE_fnd hq a l 0
 cases hfa : fnd a l with
 | none =>
  rw [hfa] at hfind
  refine wo_mapup_new hx hkey hy (by rw [hq]; simp) hfl hs hg hfind (hk _ rfl ⟨l ++ [(a, u, ck)], ck + 1, ?_, fun b => ?_⟩ fun j hj => get_put_other hid _ (Ne.symm hj))
  ·rw [get_put_same hid]; simp [mpL]
  ·rw [fnd_app a b u ck l hfa, hf b]
 | some p =>
  obtain ⟨i, v⟩ := p
  rw [hfa] at hfind
  obtain ⟨hi, hset⟩ := fnd_set (ky := ky) a u l i v hfa
  simp only [Option.map_some, Nat.zero_add] at hfind
  refine wo_mapup_old hx hkey hy (by rw [hq]; simp) hfl hs hg hfind hi (hk _ rfl ⟨updK a u l, ck, ?_, fun b => ?_⟩ fun j hj => get_put_other hid _ (Ne.symm hj))
  ·rw [get_put_same hid, hset]
  ·rw [fnd_upd a u b l (by rw [hfa]; simp), hf b]
end
inductive Dt where
 | int (n : Int)
 | str (s : List Nat)
 | bool (b : Bool)
 | row (l : List Dt)
 | arr (l : List Dt)
 | big (n : Nat)
 deriving Inhabited
inductive Sh where
 | int (k : IntKind)
 | str
 | bool
 | row (l : List Sh)
 | arr (e : Sh)
 deriving Inhabited
mutual
def Sh.sz : Sh → Nat
 | .row l => szL l
 | .int _ => 1
 | .str => 1
 | .bool => 1
 | .arr _ => 1
def szL : List Sh → Nat
 | [] => 0
 | s :: l => s.sz + szL l
end
mutual
def Sh.cnt (B : Nat) : Sh → Nat
 | .row l => cntL B l
 | .arr e => 1 + B * e.cnt B
 | .int _ => 0
 | .str => 0
 | .bool => 0
def cntL (B : Nat) : List Sh → Nat
 | [] => 0
 | s :: l => s.cnt B + cntL B l
end
/-! the parts of data -/
def Dt.n : Dt → Int
 | .int n => n
 | _ => 0
def Dt.s : Dt → List Nat
 | .str s => s
 | _ => []
def Dt.b : Dt → Bool
 | .bool b => b
 | _ => false
def Dt.len : Dt → Nat
 | .row l => l.length
 | .arr l => l.length
 | .big n => n
 | _ => 0
def Dt.l : Dt → List Dt
 | .row l => l
 | .arr l => l
 | _ => []
def Dt.f (d : Dt) (i : Nat) : Dt := d.l.getD i (.int 0)
mutual
def Rp (B : Nat) (fl : Bool) (h : H) : Sh → Dt → List AV → Prop
 | .int k, d, cs => ∃ n, d = .int n ∧ cs = [.int k n]
 | .str, d, cs => ∃ s, d = .str s ∧ cs = [.str s]
 | .bool, d, cs => ∃ b, d = .bool b ∧ cs = [.bool b]
 | .row shs, d, cs => ∃ l, d = .row l ∧ RpL B fl h shs l cs
 | .arr e, d, cs => (∃ l sv id rows, d = .arr l ∧ cs = [sv] ∧ ((l.length ≤ B ∨ e.cnt B = 0) ∧ l.length ≤ 9223372036854775807) ∧ one sv = true ∧ Arr h sv e.sz rows id ∧ rows.length = l.length ∧ ∀ (i : Nat) (x : Dt) (row : List AV), l[i]? = some x → rows[i]? = some row → Rp B fl h e x row) ∨ fl = false ∧ ∃ n oa cp, d = .big n ∧ cs = [.raw oa n cp] ∧ B < n ∧ e.cnt B ≠ 0 ∧ n ≤ 9223372036854775807
def RpL (B : Nat) (fl : Bool) (h : H) : List Sh → List Dt → List AV → Prop
 | [], ds, cs => ds = [] ∧ cs = []
 | s :: shs, ds, cs => ∃ d ds' a b, ds = d :: ds' ∧ cs = a ++ b ∧ Rp B fl h s d a ∧ RpL B fl h shs ds' b
end
mutual
theorem Rp.len {B : Nat} {fl : Bool} {h : H} : ∀ {sh : Sh} {d : Dt} {cs : List AV}, Rp B fl h sh d cs → cs.length = sh.sz
 | .int k, d, cs, q => by
  simp only [Rp] at q
  obtain ⟨n, _, rfl⟩ := q
  rfl
 | .str, d, cs, q => by
  simp only [Rp] at q
  obtain ⟨n, _, rfl⟩ := q
  rfl
 | .bool, d, cs, q => by
  simp only [Rp] at q
  obtain ⟨n, _, rfl⟩ := q
  rfl
 | .row shs, d, cs, q => by
  simp only [Rp] at q
  obtain ⟨l, _, q⟩ := q
  simp only [Sh.sz]
  exact RpL.len q
 | .arr e, d, cs, q => by
  simp only [Rp] at q
  rcases q with ⟨l, sv, id, rows, _, rfl, _⟩ | ⟨_, n, oa, cp, _, rfl, _⟩
  ·rfl
  ·rfl
theorem RpL.len {B : Nat} {fl : Bool} {h : H} : ∀ {shs : List Sh} {ds : List Dt} {cs : List AV}, RpL B fl h shs ds cs → cs.length = szL shs
 | [], ds, cs, q => by
  simp only [RpL] at q
  obtain ⟨_, rfl⟩ := q
  rfl
 | s :: shs, ds, cs, q => by
  simp only [RpL] at q
  obtain ⟨d, ds', a, b, _, rfl, q1, q2⟩ := q
  simp only [szL, List.length_append]
  rw [Rp.len q1, RpL.len q2]
end
mutual
theorem Rp.grew {B : Nat} {fl : Bool} {h h' : H} (hg : Grew h h') : ∀ {sh : Sh} {d : Dt} {cs : List AV}, Rp B fl h sh d cs → Rp B fl h' sh d cs
 | .int k, d, cs, q => by simpa only [Rp] using q
 | .str, d, cs, q => by simpa only [Rp] using q
 | .bool, d, cs, q => by simpa only [Rp] using q
 | .row shs, d, cs, q => by
  simp only [Rp] at q ⊢
  obtain ⟨l, e, q⟩ := q
  exact ⟨l, e, RpL.grew hg q⟩
 | .arr e, d, cs, q => by
  simp only [Rp] at q ⊢
  rcases q with ⟨l, sv, id, rows, e1, e2, e0, e3, e4, e5, e6⟩ | q
  ·exact Or.inl ⟨l, sv, id, rows, e1, e2, e0, e3, e4.grew hg, e5, fun i x row h1 h2 => Rp.grew hg (e6 i x row h1 h2)⟩
  ·exact Or.inr q
theorem RpL.grew {B : Nat} {fl : Bool} {h h' : H} (hg : Grew h h') : ∀ {shs : List Sh} {ds : List Dt} {cs : List AV}, RpL B fl h shs ds cs → RpL B fl h' shs ds cs
 | [], ds, cs, q => by simpa only [RpL] using q
 | s :: shs, ds, cs, q => by
  simp only [RpL] at q ⊢
  obtain ⟨d, ds', a, b, e1, e2, q1, q2⟩ := q
  exact ⟨d, ds', a, b, e1, e2, Rp.grew hg q1, RpL.grew hg q2⟩
end
structure Sl (B : Nat) (fl : Bool) (h : H) (e : Sh) (l : List Dt) (sv : AV) : Prop where
 le : l.length ≤ 9223372036854775807
 out : ∃ id rows, one sv = true ∧ Arr h sv e.sz rows id ∧ rows.length = l.length ∧ ∀ (i : Nat) (x : Dt) (row : List AV), l[i]? = some x → rows[i]? = some row → Rp B fl h e x row
theorem Sl.grew {B : Nat} {fl : Bool} {h h' : H} {e : Sh} {l : List Dt} {sv : AV} (q : Sl B fl h e l sv) (hg : Grew h h') : Sl B fl h' e l sv := by
 obtain ⟨id, rows, e3, e4, e5, e6⟩ := q.out
 exact ⟨q.le, ⟨id, rows, e3, e4.grew hg, e5, fun i x row h1 h2 => Rp.grew hg (e6 i x row h1 h2)⟩⟩
theorem Sl.one {B : Nat} {fl : Bool} {h : H} {e : Sh} {l : List Dt} {sv : AV} (q : Sl B fl h e l sv) : Ev.one sv = true := by
 obtain ⟨id, rows, e3, _⟩ := q.out
 exact e3
theorem rp_arr {B : Nat} {fl : Bool} {h : H} {e : Sh} {d : Dt} {cs : List AV} : Rp B fl h (.arr e) d cs ↔ (∃ l sv, d = .arr l ∧ cs = [sv] ∧ (l.length ≤ B ∨ e.cnt B = 0) ∧ Sl B fl h e l sv) ∨ fl = false ∧ ∃ n oa cp, d = .big n ∧ cs = [.raw oa n cp] ∧ B < n ∧ e.cnt B ≠ 0 ∧ n ≤ 9223372036854775807 := by
 simp only [Rp]
 constructor
 ·rintro (⟨l, sv, id, rows, e1, e2, e0, e3, e4, e5, e6⟩ | q)
  ·exact Or.inl ⟨l, sv, e1, e2, e0.1, ⟨e0.2, ⟨id, rows, e3, e4, e5, e6⟩⟩⟩
  ·exact Or.inr q
 ·rintro (⟨l, sv, e1, e2, e0, ⟨e7, ⟨id, rows, e3, e4, e5, e6⟩⟩⟩ | q)
  ·exact Or.inl ⟨l, sv, id, rows, e1, e2, ⟨e0, e7⟩, e3, e4, e5, e6⟩
  ·exact Or.inr q
theorem ones_append : ∀ {a b : List AV}, ones a = true → ones b = true → ones (a ++ b) = true
 | [], b, _, h => h
 | x :: a, b, h1, h2 => by
  unfold ones at h1
  cases hx : Ev.one x with
  | false => rw [hx] at h1; cases h1
  | true =>
   rw [hx] at h1
   simp only [List.cons_append, ones, hx]
   exact ones_append h1 h2
mutual
theorem Rp.ones {B : Nat} {fl : Bool} {h : H} : ∀ {sh : Sh} {d : Dt} {cs : List AV}, Rp B fl h sh d cs → Ev.ones cs = true
 | .int k, d, cs, q => by
  simp only [Rp] at q
  obtain ⟨n, _, rfl⟩ := q
  rfl
 | .str, d, cs, q => by
  simp only [Rp] at q
  obtain ⟨n, _, rfl⟩ := q
  rfl
 | .bool, d, cs, q => by
  simp only [Rp] at q
  obtain ⟨n, _, rfl⟩ := q
  rfl
 | .row shs, d, cs, q => by
  simp only [Rp] at q
  obtain ⟨l, _, q⟩ := q
  exact RpL.ones q
 | .arr e, d, cs, q => by
  simp only [Rp] at q
  rcases q with ⟨l, sv, id, rows, _, rfl, _, ho, _⟩ | ⟨_, n, oa, cp, _, rfl, _⟩
  ·simp only [Ev.ones, ho]; rfl
  ·rfl
theorem RpL.ones {B : Nat} {fl : Bool} {h : H} : ∀ {shs : List Sh} {ds : List Dt} {cs : List AV}, RpL B fl h shs ds cs → Ev.ones cs = true
 | [], ds, cs, q => by
  simp only [RpL] at q
  obtain ⟨_, rfl⟩ := q
  rfl
 | s :: shs, ds, cs, q => by
  simp only [RpL] at q
  obtain ⟨d, ds', a, b, _, rfl, q1, q2⟩ := q
  exact ones_append (Rp.ones q1) (RpL.ones q2)
end
/-! one step -/
section
variable {B : Nat} {fl : Bool} {h : H} {d : Dt} {ds : List Dt} {cs : List AV}
theorem rp_int {k : IntKind} (q : Rp B fl h (.int k) d cs) : ∃ n, d = .int n ∧ cs = [.int k n] := by simpa only [Rp] using q
theorem rp_str (q : Rp B fl h .str d cs) : ∃ s, d = .str s ∧ cs = [.str s] := by simpa only [Rp] using q
theorem rp_bool (q : Rp B fl h .bool d cs) : ∃ b, d = .bool b ∧ cs = [.bool b] := by simpa only [Rp] using q
theorem rp_row {l : List Sh} (q : Rp B fl h (.row l) d cs) : ∃ ds, d = .row ds ∧ RpL B fl h l ds cs := by simpa only [Rp] using q
theorem rpL_cons {s : Sh} {l : List Sh} (q : RpL B fl h (s :: l) ds cs) : ∃ d ds' a b, ds = d :: ds' ∧ cs = a ++ b ∧ Rp B fl h s d a ∧ RpL B fl h l ds' b := by simpa only [RpL] using q
theorem rpL_nil (q : RpL B fl h [] ds cs) : ds = [] ∧ cs = [] := by simpa only [RpL] using q
theorem rp_arrT {e : Sh} (q : Rp B true h (.arr e) d cs) : ∃ l sv, d = .arr l ∧ cs = [sv] ∧ (l.length ≤ B ∨ e.cnt B = 0) ∧ Sl B true h e l sv := by
 rcases rp_arr.1 q with q | ⟨q, _⟩
 ·exact q
 ·cases q
end
/-! data without slices that are not looked into -/
mutual
def nb : Sh → Dt → Prop
 | .row shs, d => nbL shs d.l
 | .arr e, d => (∃ l, d = .arr l) ∧ ∀ (i : Nat) (x : Dt), d.l[i]? = some x → nb e x
 | .int _, _ => True
 | .str, _ => True
 | .bool, _ => True
def nbL : List Sh → List Dt → Prop
 | [], _ => True
 | s :: shs, ds => match ds with
  | [] => True
  | d :: ds => nb s d ∧ nbL shs ds
end
mutual
theorem Rp.full {B : Nat} {h : H} : ∀ {sh : Sh} {d : Dt} {cs : List AV}, Rp B false h sh d cs → nb sh d → Rp B true h sh d cs
 | .int k, d, cs, q, _ => by simpa only [Rp] using q
 | .str, d, cs, q, _ => by simpa only [Rp] using q
 | .bool, d, cs, q, _ => by simpa only [Rp] using q
 | .row shs, d, cs, q, hn => by
  simp only [Rp] at q ⊢
  obtain ⟨l, rfl, q⟩ := q
  simp only [nb] at hn
  exact ⟨l, rfl, RpL.full q hn⟩
 | .arr e, d, cs, q, hn => by
  simp only [nb] at hn
  obtain ⟨⟨l0, rfl⟩, hn⟩ := hn
  simp only [Rp] at q ⊢
  rcases q with ⟨l, sv, id, rows, e1, e2, e0, e3, e4, e5, e6⟩ | ⟨_, n, oa, cp, e1, _⟩
  ·cases e1
   exact Or.inl ⟨l0, sv, id, rows, rfl, e2, e0, e3, e4, e5, fun i x row h1 h2 => Rp.full (e6 i x row h1 h2) (hn i x h1)⟩
  ·cases e1
theorem RpL.full {B : Nat} {h : H} : ∀ {shs : List Sh} {ds : List Dt} {cs : List AV}, RpL B false h shs ds cs → nbL shs ds → RpL B true h shs ds cs
 | [], ds, cs, q, _ => by simpa only [RpL] using q
 | s :: shs, ds, cs, q, hn => by
  simp only [RpL] at q ⊢
  obtain ⟨d, ds', a, b, rfl, e2, q1, q2⟩ := q
  simp only [nbL] at hn
  exact ⟨d, ds', a, b, rfl, e2, Rp.full q1 hn.1, RpL.full q2 hn.2⟩
end
end Go.Proofs.YtmdceifbbmnfgaaGreatDoor.Ev
