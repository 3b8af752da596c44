/- CoverStates, part 14 -/
import Derived.Test.YtgaihilgffficaaGreatDoorSyA
import Derived.Test.YtgaihilgffficaaGreatDoorEvX
set_option linter.all false
namespace Go.Proofs.YtgaihilgffficaaGreatDoor.Ev
section
open Go
/-! heaps -/
def H.new (h : H) (b : AB) : H := ⟨Tr.set depth h.t h.n b, h.n + 1⟩
def H.put (h : H) (id : Nat) (b : AB) : H := ⟨Tr.set depth h.t id b, h.n⟩
def H.get (h : H) (id : Nat) : Option AB := Tr.get h.t id
theorem vx (h : H) (b : AB) : (h.new b).n = h.n + 1 := rfl
theorem EH {h : H} (hn : h.n < h.n + 1) (b : AB) (id : Nat) : (h.new b).get id = if h.n = id then some b else h.get id := bZ _ _ _ _ hn
theorem lg {h : H} (hn : h.n < h.n + 1) (b : AB) : (h.new b).get h.n = some b := by rw [EH hn, if_pos rfl]
theorem ir {h : H} (hn : h.n < h.n + 1) (b : AB) {id : Nat} (bV : id < h.n) : (h.new b).get id = h.get id := by rw [EH hn, if_neg (by omega)]
theorem EI {h : H} {id : Nat} (hn : id < id + 1) (b : AB) (j : Nat) : (h.put id b).get j = if id = j then some b else h.get j := bZ _ _ _ _ hn
theorem zk {h : H} {id : Nat} (hn : id < id + 1) (b : AB) : (h.put id b).get id = some b := by rw [EI hn, if_pos rfl]
theorem jX {h : H} {id : Nat} (hn : id < id + 1) (b : AB) {j : Nat} (hj : id ≠ j) : (h.put id b).get j = h.get j := by rw [EI hn, if_neg hj]
structure nI (h h' : H) : Prop where
 le : h.n ≤ h'.n
 get : ∀ id, id < h.n → h'.get id = h.get id
theorem nI.refl (h : H) : nI h h := ⟨Nat.le_refl _, fun _ _ => rfl⟩
theorem nI.trans {h h1 h2 : H} (a : nI h h1) (b : nI h1 h2) : nI h h2 := ⟨Nat.le_trans a.le b.le, fun id bV => (b.get id (Nat.lt_of_lt_of_le bV a.le)).trans (a.get id bV)⟩
theorem nI.new {h : H} (hn : h.n < h.n + 1) (b : AB) : nI h (h.new b) := ⟨by simp [H.new], fun id bV => ir hn b bV⟩
theorem nI.Bv {h h1 : H} (a : nI h h1) (hn : h1.n < h1.n + 1) (b : AB) : nI h (h1.new b) := a.trans (nI.new hn b)
/-! lists -/
theorem gx {α R : Type} : ∀ (n : Nat) (l : List α) (k : List α → Option R), n ≤ l.length → gh n l k = k (l.take n)
 | 0, l, k, _ => by simp [gh]
 | n + 1, [], k, h => by simp at h
 | n + 1, x :: l, k, h => by
  simp only [gh, List.take_succ_cons]
  exact gx n l _ (by simpa using h)
theorem gw {α R : Type} : ∀ (n : Nat) (l : List α) (k : List α → Option R), n ≤ l.length → jg n l k = k (l.drop n)
 | 0, l, k, _ => by simp [jg]
 | n + 1, [], k, h => by simp at h
 | n + 1, x :: l, k, h => by
  simp only [jg, List.drop_succ_cons]
  exact gw n l _ (by simpa using h)
theorem BV {R : Type} : ∀ (news l : List AV) (k : List AV → Option R), news.length ≤ l.length → uN news l k = k (news ++ l.drop news.length)
 | [], l, k, _ => by simp [uN]
 | y :: news, [], k, h => by simp at h
 | y :: news, x :: l, k, h => by
  simp only [uN, List.length_cons, List.drop_succ_cons, List.cons_append]
  exact BV news l _ (by simpa using h)
def dL (off : Nat) (news l : List AV) : List AV := l.take off ++ news ++ l.drop (off + news.length)
theorem jo {R : Type} : ∀ (off : Nat) (news l : List AV) (k : List AV → Option R), off + news.length ≤ l.length → fq off news l k = k (dL off news l)
 | 0, news, l, k, h => by
  simp only [fq, dL, List.take_zero, List.nil_append, Nat.zero_add]
  exact BV news l k om
 | off + 1, news, [], k, h => by simp at h
 | off + 1, news, x :: l, k, h => by
  have hl : off + news.length ≤ l.length := by simp only [List.length_cons] at h; omega
  have e : dL (off + 1) news (x :: l) = x :: dL off news l := by simp [dL, Nat.add_right_comm]
  simp only [fq, e]
  exact jo off news l (fun ys => k (x :: ys)) hl
def oU (env : bu) : List (Nat × Nat × XV) → List AV → Option (List AV)
 | [], l => some l
 | p :: ps, l => match dX env p.2.2 with
  | some v => bif Nat.beq (iG v.cells) p.2.1 && A3 v then match fq p.1 v.cells l some with
      | some l => oU env ps l
      | none => none
   else none
  | none => none
theorem zx {R : Type} : ∀ (off : Nat) (news l : List AV) (k : List AV → Option R), fq off news l k = (fq off news l some).bind k := by
 intro off news l k
 by_cases h : off + news.length ≤ l.length
 ·rw [jo _ _ _ _ h, jo _ _ _ _ h]; rfl
 ·cases h1 : fq off news l k with
  | some r => exact absurd (gu h1).1 h
  | none =>
   cases h2 : fq off news l some with
   | some r => exact absurd (gu h2).1 h
   | none => rfl
theorem vE {R : Type} {sl : Tr AV} {env : bu} (hs : Has sl env) : ∀ (ps : List (Nat × Nat × XV)) (l l' : List AV), oU env ps l = some l' → ∀ k : List AV → Option R, kU sl ps l k = k l'
 | [], l, l', e, k => by cases e; rfl
 | p :: ps, l, l', e, k => by
  simp only [oU] at e
  split at e
  ·rename_i v hv
   have hv' := hs.ev hv
   cases hb : (Nat.beq (iG v.cells) p.2.1 && A3 v) with
   | false => rw [hb] at e; cases e
   | true =>
    rw [hb] at e
    simp only [cond] at e
    split at e
    ·rename_i l1 hl1
     simp only [kU, hv', hb, cond]
     rw [zx, hl1]
     exact vE hs ps l1 l' e k
    ·cases e
  ·cases e
/-! numbers -/
theorem MI {n : Int} (h1 : -9223372036854775808 ≤ n) (h2 : n ≤ 9223372036854775807) : w8 .i64 n = true := by
 cases n with
 | ofNat m =>
  have h3 : (m : Int) ≤ 9223372036854775807 := h2
  simp only [w8]
  exact Nat.ble_eq_true_of_le om
 | negSucc m => simp only [w8]; exact Nat.ble_eq_true_of_le om
theorem xu {a b : Nat} (h : b ≤ a) : Nat.blt a b = false := by
 cases hb : Nat.blt a b with
 | false => rfl
 | true =>
  have : a < b := by simpa [Nat.blt_eq] using hb
  omega
theorem bN (k : IntKind) : fD k k = true := by simp [fD]
section
variable {P : Program} {X : dg} {M : Mf} {c : C} {env : bu} {h : H} {K : AV → H → Prop}
theorem bq {o : SO} {v : AV} {h' : H} (e : ∀ sl, Has sl env → ∀ call k, o.den c call sl h k = k v h') (hk : K v h') : WO P X M c o env h K := .mk fun sl hs => ⟨v, h', ⟨0, fun n _ k => e sl hs _ k⟩, hk⟩
theorem Qz {x : XV} {v : AV} (hx : dX env x = some v) (hk : K v h) : WO P X M c (.mv x) env h K := bq (fun sl hs call k => by simp only [SO.den, Q5, hs.ev hx]) hk
theorem Gi {b x y : XV} {v : AV} (hb : dX env b = some (.bool true)) (hx : dX env x = some v) (hk : K v h) : WO P X M c (.pick b x y) env h K := bq (fun sl hs call k => by simp only [SO.den, w9, hs.ev hb, hs.ev hx]) hk
theorem Gj {b x y : XV} {v : AV} (hb : dX env b = some (.bool false)) (hy : dX env y = some v) (hk : K v h) : WO P X M c (.pick b x y) env h K := bq (fun sl hs call k => by simp only [SO.den, w9, hs.ev hb, hs.ev hy]) hk
theorem gW {R : Type} {b : AB} (hn : h.n < h.n + 1) (k : Nat → H → Option R) : pW h b k = k h.n (h.new b) := by
 unfold pW
 simp only [Tr.kY, bn]; rfl
theorem tB {R : Type} {id : Nat} {b : AB} (hf : c.floor ≤ id) (hs : seen c.cM id = true) (k : H → Option R) : wA c h id b k = k (h.put id b) := by
 unfold wA
 simp only [Nat.ble_eq_true_of_le hf, hs, Bool.and_self, cond, Tr.kY]; rfl
theorem dV {id : Nat} (hs : seen c.cM id = true) : cT c h id = h.get id := by unfold cT; rw [hs]; rfl
theorem LY {v : AV} (h : one v = true) : A3 v = true := by
 cases v <;> first | rfl | (have h' : false = true := h; cases h')
theorem Oo {x : XV} {v : AV} (hx : dX env x = some v) (hn : h.n < h.n + 1) (hk : K (.ptr h.n 0) (h.new (.cells v.cells))) (jt : A3 v = true := by first | rfl | (apply LY; assumption)) : WO P X M c (.box x) env h K :=
 bq (fun sl hs call k => by simp only [SO.den, A4, hs.ev hx, jt, cond_true, gW hn]) hk
theorem Jf {z : List AV} {ps : List (Nat × Nat × XV)} {l : List AV} (hp : oU env ps z = some l) (hk : K (.agg l) h) : WO P X M c (.build z ps) env h K :=
 bq (fun sl hs call k => by simp only [SO.den, rh]; rw [vE hs ps z l hp]) hk
theorem xt {n : Nat} {z : List AV} {ps : List (Nat × Nat × XV)} {l : List AV} (hp : oU env ps (List.replicate n z).flatten = some l) (hn : h.n < h.n + 1) (hk : K (.sl h.n 0 n z.length (some n)) (h.new (.cells l))) : WO P X M c (.cr n z ps) env h K :=
 bq (fun sl hs call k => by simp only [SO.den, pX, qn]; rw [vE hs ps _ l hp, gW hn, dw]) hk
theorem vz {x : XV} {id off : Nat} {vs : List AV} {v : AV} (hx : dX env x = some (.ptr id off)) (hs : seen c.cM id = true) (hg : h.get id = some (.cells vs)) (hv : vs[off]? = some v) (hk : K v h) : WO P X M c (.aB x) env h K :=
 bq (fun sl hh call k => by simp only [SO.den, uO, hh.ev hx, dD, dV hs, hg, gP, hv]) hk
theorem qu {n : Nat} {x : XV} {id off : Nat} {vs us : List AV} (hx : dX env x = some (.ptr id off)) (hs : seen c.cM id = true) (hg : h.get id = some (.cells vs)) (hl : off + n ≤ vs.length) (hu : (vs.drop off).take n = us) (hk : K (.agg us) h) : WO P X M c (.ax n x) env h K :=
 bq (fun sl hh call k => by
  simp only [SO.den, uP, hh.ev hx, dD, dV hs, hg]
  rw [gw _ _ _ (by omega), gx _ _ _ (by simp; omega), hu]) hk
theorem BJ {n : Nat} {a x : XV} {id off : Nat} {vs : List AV} {v : AV} (ha : dX env a = some (.ptr id off)) (hx : dX env x = some v) (hf : c.floor ≤ id) (hs : seen c.cM id = true) (hg : h.get id = some (.cells vs)) (hn : v.cells.length = n) (ho : cw v.cells = true) (hl : off + n ≤ vs.length)
    (hk : K (.bO []) (h.put id (.cells (dL off v.cells vs)))) : WO P X M c (.store n a x) env h K :=
 bq (fun sl hh call k => by
  have hb : Nat.beq (iG v.cells) n = true := by rw [dw, hn]; simp
  simp only [SO.den, uQ, hh.ev ha, hh.ev hx, dD, dV hs, hg, hb, ho, Bool.and_self, cond]
  rw [jo _ _ _ _ (by omega), tB hf hs]) hk
theorem zi {x : XV} {id off : Nat} (hx : dX env x = some (.ptr id off)) (hk : K (.ptr id off) h) : WO P X M c (.bx x) env h K := bq (fun sl hs call k => by simp only [SO.den, xa, hs.ev hx]) hk
theorem Jd {x : XV} {f : Nat} {cs : List AV} (hx : dX env x = some (.fn f cs)) (hk : K (.fn f cs) h) : WO P X M c (.bx x) env h K := bq (fun sl hs call k => by simp only [SO.den, xa, hs.ev hx]) hk
theorem Og {x y : XV} {a b : Int} (hx : dX env x = some (.int .i64 a)) (hy : dX env y = some (.int .i64 b)) (h1 : -9223372036854775808 ≤ a + b) (h2 : a + b ≤ 9223372036854775807) (hk : K (.int .i64 (a + b)) h) : WO P X M c (.ints .add x y) env h K :=
 bq (fun sl hs call k => by
  have hr : w8 .i64 (Int.add a b) = true := MI h1 h2
  simp only [SO.den, SI.den, Ev.ints, hs.ev hx, hs.ev hy, bN, cond, HZ, yP, hr, eh]; rfl) hk
theorem Oh {x y : XV} {a b : Int} (hx : dX env x = some (.int .i64 a)) (hy : dX env y = some (.int .i64 b)) (h1 : -9223372036854775808 ≤ a - b) (h2 : a - b ≤ 9223372036854775807) (hk : K (.int .i64 (a - b)) h) : WO P X M c (.ints .sub x y) env h K :=
 bq (fun sl hs call k => by
  have hr : w8 .i64 (Int.sub a b) = true := MI h1 h2
  simp only [SO.den, SI.den, Ev.ints, hs.ev hx, hs.ev hy, bN, cond, H0, yP, hr, eh]; rfl) hk
theorem Oi {x y : XV} {p : IntKind} {a b : Int} (hx : dX env x = some (.int p a)) (hy : dX env y = some (.int p b)) (ht : a < b → K (.bool true) h) (hf : ¬ a < b → K (.bool false) h) : WO P X M c (.ints .lss x y) env h K := by
 by_cases q : a < b
 ·exact bq (fun sl hs call k => by simp only [SO.den, SI.den, Ev.ints, hs.ev hx, hs.ev hy, bN, cond, H2, fb, iA, decide_eq_true q, bU]) (ht q)
 ·exact bq (fun sl hs call k => by simp only [SO.den, SI.den, Ev.ints, hs.ev hx, hs.ev hy, bN, cond, H2, fb, iA, decide_eq_false q, bU]) (hf q)
theorem Oj {x y : XV} {p : IntKind} {a b : Int} (hx : dX env x = some (.int p a)) (hy : dX env y = some (.int p b)) (ht : b < a → K (.bool true) h) (hf : ¬ b < a → K (.bool false) h) : WO P X M c (.ints .gtr x y) env h K := by
 by_cases q : b < a
 ·exact bq (fun sl hs call k => by simp only [SO.den, SI.den, Ev.ints, hs.ev hx, hs.ev hy, bN, cond, H4, fb, iA, decide_eq_true q, bU]) (ht q)
 ·exact bq (fun sl hs call k => by simp only [SO.den, SI.den, Ev.ints, hs.ev hx, hs.ev hy, bN, cond, H4, fb, iA, decide_eq_false q, bU]) (hf q)
theorem Ol {x y : XV} {p : IntKind} {a b : Int} (hx : dX env x = some (.int p a)) (hy : dX env y = some (.int p b)) (ht : a ≤ b → K (.bool true) h) (hf : ¬ a ≤ b → K (.bool false) h) : WO P X M c (.ints .leq x y) env h K := by
 by_cases q : b < a
 ·exact bq (fun sl hs call k => by simp only [SO.den, SI.den, Ev.ints, hs.ev hx, hs.ev hy, bN, cond, H3, fb, iA, decide_eq_true q, Bool.not_true, bU]) (hf om)
 ·exact bq (fun sl hs call k => by simp only [SO.den, SI.den, Ev.ints, hs.ev hx, hs.ev hy, bN, cond, H3, fb, iA, decide_eq_false q, Bool.not_false, bU]) (ht om)
theorem Ok {x y : XV} {p : IntKind} {a b : Int} (hx : dX env x = some (.int p a)) (hy : dX env y = some (.int p b)) (ht : b ≤ a → K (.bool true) h) (hf : ¬ b ≤ a → K (.bool false) h) : WO P X M c (.ints .geq x y) env h K := by
 by_cases q : a < b
 ·exact bq (fun sl hs call k => by simp only [SO.den, SI.den, Ev.ints, hs.ev hx, hs.ev hy, bN, cond, H5, fb, iA, decide_eq_true q, Bool.not_true, bU]) (hf om)
 ·exact bq (fun sl hs call k => by simp only [SO.den, SI.den, Ev.ints, hs.ev hx, hs.ev hy, bN, cond, H5, fb, iA, decide_eq_false q, Bool.not_false, bU]) (ht om)
theorem mE {q : SQ} {neg : Bool} {x y : XV} {u v : AV} {b : Bool} (hx : dX env x = some u) (hy : dX env y = some v) (hq : q.den u v = some b) (hk : K (.bool (bne b neg)) h) : WO P X M c (.eql q neg x y) env h K :=
 bq (fun sl hs call k => by simp only [SO.den, H6, hs.ev hx, hs.ev hy, hq, fb, bU]) hk
theorem kD (p : IntKind) (a b : Int) : r5 (.int p a) (.int p b) = some (decide (a = b)) := by simp only [r5, bN, cond, rv]
theorem Om {neg : Bool} {x y : XV} {p : IntKind} {a b : Int} (hx : dX env x = some (.int p a)) (hy : dX env y = some (.int p b)) (ht : a = b → K (.bool (bne true neg)) h) (hf : ¬ a = b → K (.bool (bne false neg)) h) : WO P X M c (.eql (.b .int) neg x y) env h K := by
 by_cases q : a = b
 ·exact mE hx hy (by simp only [SQ.den, SB.den, kD, decide_eq_true q]) (ht q)
 ·exact mE hx hy (by simp only [SQ.den, SB.den, kD, decide_eq_false q]) (hf q)
theorem On {neg : Bool} {x y : XV} {a b : List Nat} (hx : dX env x = some (.str a)) (hy : dX env y = some (.str b)) (ht : a = b → K (.bool (bne true neg)) h) (hf : ¬ a = b → K (.bool (bne false neg)) h) : WO P X M c (.eql (.b .str) neg x y) env h K := by
 by_cases q : a = b
 ·exact mE hx hy (by simp only [SQ.den, SB.den, eqStr, mz, decide_eq_true q]) (ht q)
 ·exact mE hx hy (by simp only [SQ.den, SB.den, eqStr, mz, decide_eq_false q]) (hf q)
theorem rF : ∀ (azs bs : List Int), azs.length = bs.length → fS (azs.map fun _ => r5) (azs.map (AV.int .i64)) (bs.map (AV.int .i64)) = some (decide (azs = bs))
 | [], [], _ => rfl
 | [], _ :: _, h => by simp at h
 | _ :: _, [], h => by simp at h
 | a :: azs, b :: bs, h => by
  simp only [List.map_cons, fS, kD]
  by_cases q : a = b
  ·subst q
   simp only [decide_true]
   rw [rF azs bs (by simpa using h)]
   simp
  ·simp only [decide_eq_false q]
   simp [q]
theorem Ng {neg : Bool} {x y : XV} {a1 a2 a3 b1 b2 b3 : Int} (hx : dX env x = some (.agg [.int .i64 a1, .int .i64 a2, .int .i64 a3])) (hy : dX env y = some (.agg [.int .i64 b1, .int .i64 b2, .int .i64 b3])) (ht : [a1, a2, a3] = [b1, b2, b3] → K (.bool (bne true neg)) h) (hf : ¬ [a1, a2, a3] = [b1, b2, b3] → K (.bool (bne false neg)) h) : WO P X M c (.eql (.st [.int, .int, .int]) neg x y) env h K := by
 have e := rF [a1, a2, a3] [b1, b2, b3] rfl
 by_cases q : [a1, a2, a3] = [b1, b2, b3]
 ·rw [decide_eq_true q] at e; exact mE hx hy e (ht q)
 ·rw [decide_eq_false q] at e; exact mE hx hy e (hf q)
theorem Oe {x : XV} {b : Bool} (hx : dX env x = some (.bool b)) (hk : K (.bool (!b)) h) : WO P X M c (.not x) env h K := bq (fun sl hs call k => by simp only [SO.den, H7, hs.ev hx, fb, bU]) hk
theorem vv {o : Nat} {x : XV} {id off : Nat} (hx : dX env x = some (.ptr id off)) (hk : K (.ptr id (off + o)) h) : WO P X M c (.au o x) env h K := bq (fun sl hs call k => by simp only [SO.den, uR, hs.ev hx, bn]; rfl) hk
theorem Lv {o : Nat} {x : XV} {vs : List AV} {v : AV} (hx : dX env x = some (.agg vs)) (hv : vs[o]? = some v) (hk : K v h) : WO P X M c (.Hf o x) env h K := bq (fun sl hs call k => by simp only [SO.den, A6, hs.ev hx, gP, hv]) hk
theorem BK {esz : Nat} {x i : XV} {id off n es j : Nat} {cap : Option Nat} {p : IntKind} {z : Int} (hx : dX env x = some (.sl id off n es cap)) (hi : dX env i = some (.int p z)) (hz : z = (j : Int)) (hj : j < n) (hk : K (.ptr id (off + j * esz)) h) : WO P X M c (.aR esz x i) env h K :=
 bq (fun sl hs call k => by
  subst hz
  have hb : Nat.blt j n = true := by simpa [Nat.blt_eq] using hj
  have ha : asNat (.int p (j : Int)) = some j := rfl
  simp only [SO.den, uS, hs.ev hx, hs.ev hi, ha, hb, cond, bn]; rfl) hk
theorem zj {x : XV} {id off n es : Nat} {cap : Option Nat} (hx : dX env x = some (.sl id off n es cap)) (hk : K (.int .i64 (n : Int)) h) : WO P X M c (.aS x) env h K := bq (fun sl hs call k => by simp only [SO.den, uU, hs.ev hx]; rfl) hk
theorem vw {x : XV} (hx : dX env x = some .aO) (hk : K (.int .i64 0) h) : WO P X M c (.aS x) env h K := bq (fun sl hs call k => by simp only [SO.den, uU, hs.ev hx]; rfl) hk
theorem Je {x : XV} {oa : Option Addr} {n cp : Nat} (hx : dX env x = some (.raw oa n cp)) (hk : K (.int .i64 (n : Int)) h) : WO P X M c (.aS x) env h K := bq (fun sl hs call k => by simp only [SO.den, uU, hs.ev hx]; rfl) hk
theorem Lw {x : XV} {s : List Nat} (hx : dX env x = some (.str s)) (hk : K (.int .i64 (s.length : Int)) h) : WO P X M c (.kh x) env h K := bq (fun sl hs call k => by simp only [SO.den, Bb, hs.ev hx, bn, dw]; rfl) hk
theorem Lu {x : XV} {i : Nat} {vs : List AV} {v : AV} (hx : dX env x = some (.bO vs)) (hv : vs[i]? = some v) (hk : K v h) : WO P X M c (.bC x i) env h K := bq (fun sl hs call k => by simp only [SO.den, A8, hs.ev hx, gP, hv]) hk
theorem Lx {f : Nat} {cs : List XV} {vs : List AV} (hx : DB env cs = some vs) (hk : K (.fn f vs) h) : WO P X M c (.yp f cs) env h K := bq (fun sl hs call k => by simp only [SO.den, A9, k5, hs.Lt hx]) hk
theorem Jl (hn : h.n < h.n + 1) (hk : K (.mp h.n) (h.new (.map [] 0))) : WO P X M c .rQ env h K := bq (fun sl hs call k => by simp only [SO.den, uT, gW hn]) hk
def Gk (env : bu) (d : Nat) : Option XV → Option Nat
 | none => some d
 | some x => match dX env x with
  | some (.int _ (.ofNat n)) => some n
  | _ => none
theorem jY {sl : Tr AV} (hs : Has sl env) {d : Nat} {x : Option XV} {n : Nat} (e : Gk env d x = some n) : cU sl d x = some n := by
 cases x with
 | none => exact e
 | some x =>
  simp only [Gk] at e
  split at e
  ·rename_i k m hm
   cases e
   simp only [cU, hs.ev hm]; rfl
  ·cases e
theorem Gm {esz : Nat} {x : XV} {lo hi : Option XV} (hx : dX env x = some .aO) (hl : Gk env 0 lo = some 0) (hu : Gk env 0 hi = some 0) (hk : K .aO h) : WO P X M c (.slice esz x lo hi) env h K :=
 bq (fun sl hs call k => by simp only [SO.den, mi, hs.ev hx, jY hs hl, jY hs hu]) hk
/-! maps -/
def xB (ok : Bool) (v : AV) (b : Bool) : AV := bif ok then .bO [v, .bool b] else v
def Jt (ok : Bool) (z : AV) : Option (Nat × AV) → AV
 | some p => xB ok p.2 true
 | none => xB ok z false
theorem vF (ok : Bool) (v : AV) (b : Bool) (h : H) (k : dH) : mO ok v b h k = k (xB ok v b) h := by cases ok <;> rfl
theorem Gq {q : SQ} {z : AV} {x key : XV} {ok : Bool} {kv : AV} {id clock : Nat} {es : List (AV × AV × Nat)} {r : Option (Nat × AV)} (hx : dX env x = some (.mp id)) (hkey : dX env key = some kv) (hfit : q.den kv kv = some true) (hs : seen c.cM id = true) (hg : h.get id = some (.map es clock)) (hf : gD q.den kv es 0 = some r)
    (hk : K (Jt ok z r) h) : WO P X M c (.lookup q z x key ok) env h K :=
 bq (fun sl hh call k => by
  simp only [SO.den, p5, hh.ev hx, hh.ev hkey, Dd, hfit, dV hs, hg, hf]
  cases r with
  | none => simp only [vF, Jt]
  | some p => obtain ⟨i, v⟩ := p; simp only [vF, Jt]) hk
theorem EJ {R : Type} (v : AV) : ∀ (i : Nat) (es : List (AV × AV × Nat)) (k : List (AV × AV × Nat) → Option R) (hi : i < es.length), FB v i es k = k (es.set i (es[i].1, v, es[i].2.2))
 | _, [], _, hi => by simp at hi
 | 0, e :: es, k, _ => by simp [FB]
 | i + 1, e :: es, k, hi => by
  simp only [FB, List.set_cons_succ, List.getElem_cons_succ]
  exact EJ v i es _ (by simpa using hi)
theorem zu {q : SQ} {m key v : XV} {kv u u0 : AV} {id clock i : Nat} {es : List (AV × AV × Nat)} (hm : dX env m = some (.mp id)) (hkey : dX env key = some kv) (hv : dX env v = some u) (hfit : q.den kv kv = some true) (hfl : c.floor ≤ id) (hs : seen c.cM id = true) (hg : h.get id = some (.map es clock)) (hf : gD q.den kv es 0 = some (some (i, u0))) (hi : i < es.length)
    (hk : K (.bO []) (h.put id (.map (es.set i (es[i].1, u, es[i].2.2)) clock))) : WO P X M c (.lj q m key v) env h K :=
 bq (fun sl hh call k => by
  simp only [SO.den, ri, hh.ev hm, hh.ev hkey, hh.ev hv, Dd, hfit, dV hs, hg, hf]
  rw [EJ _ _ _ _ hi, tB hfl hs]) hk
theorem zt {q : SQ} {m key v : XV} {kv u : AV} {id clock : Nat} {es : List (AV × AV × Nat)} (hm : dX env m = some (.mp id)) (hkey : dX env key = some kv) (hv : dX env v = some u) (hfit : q.den kv kv = some true) (hfl : c.floor ≤ id) (hs : seen c.cM id = true) (hg : h.get id = some (.map es clock)) (hf : gD q.den kv es 0 = some none)
    (hk : K (.bO []) (h.put id (.map (es ++ [(kv, u, clock)]) (clock + 1)))) : WO P X M c (.lj q m key v) env h K :=
 bq (fun sl hh call k => by
  simp only [SO.den, ri, hh.ev hm, hh.ev hkey, hh.ev hv, Dd, hfit, dV hs, hg, hf, fv, bn]
  rw [tB hfl hs]) hk
/-! appending -/
theorem zm {esz id off n es : Nat} {cap : Option Nat} {vs us : List AV} {k : Nat → List AV → Out} (hs : seen c.cM id = true) (hg : h.get id = some (.cells vs)) (he : es = esz) (hl : off + n * esz ≤ vs.length) (hu : (vs.drop off).take (n * esz) = us) : wC c h esz (.sl id off n es cap) k = k n us := by
 have hb : Nat.beq es esz = true := by simp [he]
 simp only [wC, hb, cond, dD, dV hs, hg]
 rw [gw _ _ _ (by omega)]
 show gh (n * esz) _ _ = _
 rw [gx _ _ _ (by simp; omega), hu]
/-! calls -/
theorem zn {f : XV} {args : List XV} {g : Nat} {caps vs : List AV} (hf : dX env f = some (.fn g caps)) (ha : DB env args = some vs) (hk : Gv P X M c g (vs ++ caps) h K) : WO P X M c (.call f args) env h K := .mk fun sl hs => by
 obtain ⟨v, h', ⟨N, hN⟩, hk⟩ := hk
 refine ⟨v, h', ⟨N, fun n hn k => ?_⟩, hk⟩
 simp only [SO.den, Bc, hs.ev hf, k5, hs.Lt ha, fv]
 have e : gm (ev (cC P) (bW P X) M n) (.fn g) (vs ++ caps) c h = some (v, h') := by unfold gm; rw [hN n hn]
 rw [e]
end
section
variable {P : Program} {X : dg} {M : Mf} {c : C} {nt : Nat} {env : bu} {h : H} {Q : bu → H → Prop} {d p : Nat} {op : SO} {m b : Bool} {f : Option XV} {ops : List SR}
/-! in the text's order -/
theorem Oz {g : Nat × Bool} (hnt : nt ≤ 1000000) (hg : cW env (some g) = some false) (hd : Nat.blt d nt = true) (w : WG P X M c nt ops ((d, .bO []) :: env) h Q) : WG P X M c nt (⟨some d, op, some g, p, m, b, f⟩ :: ops) env h Q := Jr hnt hg hd w
theorem LA {g : Nat × Bool} (hnt : nt ≤ 1000000) (hg : cW env (some g) = some false) (w : WG P X M c nt ops env h Q) : WG P X M c nt (⟨none, op, some g, p, m, b, f⟩ :: ops) env h Q := Jr hnt hg rfl w
/-! in any order -/
variable {base : List (Nat × Nat)} {i : Nat} {rs : List (Nat × Nat × Nat)} {bs : List (Nat × Tr AB × Tr AB)} {fs : List (Nat × Nat)}
theorem EA {g : Option (Nat × Bool)} (hnt : nt ≤ 1000000) (hg : cW env g = some true) (hd : Nat.blt d nt = true) (w : WO P X M ⟨h.n, [(h.n, jf)]⟩ op env h (fun v h' => WD P X M c nt base ops (i + 1) (gL i h.n h'.n rs) bs fs ((d, v) :: env) h' Q)) : WD P X M c nt base (⟨some d, op, g, p, false, b, none⟩ :: ops) i rs bs fs env h Q := LW hnt hg hd rfl rfl w
theorem OP {g : Nat × Bool} (hnt : nt ≤ 1000000) (hg : cW env (some g) = some false) (hd : Nat.blt d nt = true) (w : WD P X M c nt base ops (i + 1) rs bs fs ((d, .bO []) :: env) h Q) : WD P X M c nt base (⟨some d, op, some g, p, m, b, f⟩ :: ops) i rs bs fs env h Q := O0 hnt hg hd w
theorem LL {g : Option (Nat × Bool)} {x : XV} {a : AV} {A : Nat} (hnt : nt ≤ 1000000) (hg : cW env g = some true) (hd : Nat.blt d nt = true) (ha : dX env x = some a) (hA : yS a = some A) (hsee : seen ((h.n, jf) :: cE p base rs) A = true) (hun : ml p A bs = true)
    (w : WO P X M ⟨h.n, [(h.n, jf), (A, Nat.succ A)]⟩ op env h (fun v h' => WD P X M c nt base ops (i + 1) (gL i h.n h'.n rs) bs ((i, A) :: fs) ((d, v) :: env) h' Q)) : WD P X M c nt base (⟨some d, op, g, p, m, b, some x⟩ :: ops) i rs bs fs env h Q := LX hnt hg hd rfl ha hA hsee hun w
theorem DC {g : Option (Nat × Bool)} (hnt : nt ≤ 1000000) (hg : cW env g = some true) (hd : Nat.blt d nt = true) (w : WO P X M ⟨h.n, (h.n, jf) :: cE p base rs⟩ op env h (fun v h' => WD P X M c nt base ops (i + 1) (gL i h.n h'.n rs) bs fs ((d, v) :: env) h' Q)) : WD P X M c nt base (⟨some d, op, g, p, true, false, none⟩ :: ops) i rs bs fs env h Q := O1 hnt hg hd rfl rfl rfl w
theorem zo {g : Option (Nat × Bool)} (hnt : nt ≤ 1000000) (hg : cW env g = some true) (hd : Nat.blt d nt = true) (w : WO P X M ⟨c.floor, (h.n, jf) :: cE p base rs⟩ op env h (fun v h' => ji p h.t h'.t fs = true ∧ WD P X M c nt base ops (i + 1) (gL i h.n h'.n rs) ((i, h.t, h'.t) :: bs) fs ((d, v) :: env) h' Q)) : WD P X M c nt base (⟨some d, op, g, p, true, true, none⟩ :: ops) i rs bs fs env h Q := Js hnt hg hd rfl rfl rfl w
theorem LN {g : Option (Nat × Bool)} (hnt : nt ≤ 1000000) (hg : cW env g = some true) (w : WO P X M ⟨c.floor, (h.n, jf) :: cE p base rs⟩ op env h (fun v h' => ji p h.t h'.t fs = true ∧ WD P X M c nt base ops (i + 1) (gL i h.n h'.n rs) ((i, h.t, h'.t) :: bs) fs env h' Q)) : WD P X M c nt base (⟨none, op, g, p, true, true, none⟩ :: ops) i rs bs fs env h Q := Js hnt hg rfl rfl rfl rfl w
end
/-! what is seen -/
theorem kA {r : Nat × Nat} {l : List (Nat × Nat)} {id : Nat} (h : id < r.1) (hs : seen l id = true) : seen (r :: l) id = true := by
 simp only [seen]
 have : Nat.ble r.1 id = false := by
  cases hb : Nat.ble r.1 id with
  | false => rfl
  | true => have := Nat.le_of_ble_eq_true hb; omega
 rw [this]; exact hs
theorem xx {a e : Nat} {l : List (Nat × Nat)} {id : Nat} (h1 : a ≤ id) (h2 : id < e) : seen ((a, e) :: l) id = true := by
 simp only [seen, Nat.ble_eq_true_of_le h1, cond]
 exact Bw (Or.inr h2)
theorem qx {n id : Nat} : ∀ {l : List (Nat × Nat)}, seen l id = true → id < n → seen (bD n l) id = true
 | [], h, _ => by cases h
 | r :: rs, h, hn => by
  simp only [seen] at h
  unfold bD
  cases hb : Nat.ble n r.1 with
  | true =>
   have h1 := Nat.le_of_ble_eq_true hb
   have : Nat.ble r.1 id = false := by
    cases hx : Nat.ble r.1 id with
    | false => rfl
    | true => have := Nat.le_of_ble_eq_true hx; omega
   rw [this] at h
   exact qx h hn
  | false =>
   simp only [cond]
   cases hc : (Nat.ble r.2 n && Nat.blt 0 r.2) with
   | true =>
    simp only [seen]
    cases hd : Nat.ble r.1 id with
    | true => rw [hd] at h; exact h
    | false => rw [hd] at h; exact qx h hn
   | false =>
    simp only [seen]
    cases hd : Nat.ble r.1 id with
    | true => simp only [cond]; exact Bw (Or.inr hn)
    | false => rw [hd] at h; exact qx h hn
theorem BP {bt n0 id : Nat} {base : List (Nat × Nat)} : ∀ {rs : List (Nat × Nat × Nat)}, (∀ r ∈ rs, n0 ≤ r.2.1) → id < n0 → seen base id = true → seen (cE bt base rs) id = true
 | [], _, _, h => h
 | r :: rs, hr, bV, h => by
  have ih := BP (bt := bt) (rs := rs) (fun q hq => hr q (List.mem_cons_of_mem _ hq)) bV h
  unfold cE
  cases (Nat.testBit bt r.1 && Nat.blt 0 r.2.2) with
  | false => exact ih
  | true => exact kA (by have := hr r (by simp); simp; omega) ih
/-! a block that did not change -/
theorem Gx (a : Option Nat) : Fx a a = true := by cases a <;> simp [Fx]
theorem Ju (a : List Nat) : GK a a = true := by rw [mz]; simp
theorem Jv (a : Int) : JR a a = true := by rw [rv]; simp
mutual
theorem xE : ∀ x : AV, de x x = true
 | .bool b => by simp [de]
 | .int k n => by simp [de, bN, Jv]
 | .str s => by simp [de, Ju]
 | .gA => by simp [de]
 | .ptr a b => by simp [de]
 | .aO => by simp [de]
 | .sl a b c d e => by simp [de, Gx]
 | .eU => by simp [de]
 | .mp a => by simp [de]
 | .jN => by simp [de]
 | .fn f cs => by simp [de, eD cs]
 | .wy => by simp [de]
 | .B0 a => by simp [de]
 | .iface t v => by simp [de, xE v]
 | .agg cs => by simp [de, eD cs]
 | .bO cs => by simp [de, eD cs]
 | .raw oa n cp => by simp [de]
 | .KC f t v => by simp [de, eD t, eD v]
 | .var a => by simp [de]
 | .top => by simp [de]
theorem eD : ∀ xs : List AV, jh xs xs = true
 | [] => by simp [jh]
 | x :: xs => by simp [jh, xE x, eD xs]
end
structure Cx (c : C) (h : H) : Prop where
 low : c.floor ≤ h.n
 cM : ∀ id, h.n ≤ id → seen c.cM id = true
theorem Cx.mono {c : C} {h h' : H} (x : Cx c h) (hle : h.n ≤ h'.n) : Cx c h' := ⟨Nat.le_trans x.low hle, fun id h1 => x.cM id (Nat.le_trans hle h1)⟩
theorem Cx.mem {h : H} {l : List (Nat × Nat)} {fl : Nat} (hf : fl ≤ h.n) : Cx ⟨fl, (h.n, jf) :: l⟩ h := ⟨hf, fun id h1 => ew h1⟩
theorem Cx.new {c : C} {h : H} (x : Cx c h) {id : Nat} (h1 : h.n ≤ id) (h2 : id < id + 1) : seen c.cM id = true := x.cM id h1
section
variable {P : Program} {X : dg} {M : Mf} {c : C} {nt : Nat} {env : bu} {h : H} {d p : Nat} {op : SO} {m b : Bool} {f : Option XV} {ops : List SR}
theorem QE {Q : bu → H → Prop} {g : Option (Nat × Bool)} (hnt : nt ≤ 1000000) (hg : cW env g = some true) (hd : Nat.blt d nt = true) (w : WO P X M c op env h (fun v h' => WG P X M c nt ops ((d, v) :: env) h' Q)) : WG P X M c nt (⟨some d, op, g, p, m, b, f⟩ :: ops) env h Q := MH hnt hg hd w
theorem Ox {Q : bu → H → Prop} {g : Option (Nat × Bool)} (hnt : nt ≤ 1000000) (hg : cW env g = some true) (w : WO P X M c op env h (fun v h' => WG P X M c nt ops env h' Q)) : WG P X M c nt (⟨none, op, g, p, m, b, f⟩ :: ops) env h Q := MH hnt hg rfl w
theorem R9 {v : XV} {a b : SC} {Q : Ex → bu → H → Prop} (hv : dX env v = some (.bool true)) (w : WC P X M c nt a env h Q) : WC P X M c nt (.cond v a b) env h Q := EG hv (fun _ => w) (fun q => by cases q)
theorem Sb {v : XV} {a b : SC} {Q : Ex → bu → H → Prop} (hv : dX env v = some (.bool false)) (w : WC P X M c nt b env h Q) : WC P X M c nt (.cond v a b) env h Q := EG hv (fun q => by cases q) (fun _ => w)
end
end
section
open Go Go.RowKit
variable {dr : Prop}
section
variable {P : Program} {X : dg} {M : Mf}
theorem HO (hmx : P.follows .mixedOrders = true) (hNG : ∀ (f : Nat) (fn : Func), P.funcs[f]? = some fn → (fn.name == "runtime.NumGoroutine") = false) (hX : wY P X) (hM : dG dr P P.globals.size M) {f : Nat} {args : List AV} {v : AV} {h0 h' : H}
    (hg : D8 P X M (top h0.n) (.Kx f) args h0 v h') (hwf : WF h0) {β : cn} {w : World} (hgb : GB P.globals.size β) (hr : HR h0.n β (view (top h0.n) h0) w) (hdom : ∀ id, h0.n ≤ id → β id = none) {cargs : List Value} (hv : bE β args cargs) :
    Calls P f cargs.toArray w fun e w' => ∃ β' val, e = .returned val ∧ VR β' v val ∧ Sub β β' ∧ Below w.heap.size w w' ∧ (dr → w.drawn ≤ w'.drawn) := by
 obtain ⟨N, hN⟩ := hg
 exact HQ hmx hNG hX hM (hN N (Nat.le_refl _)) hwf hgb hr hdom hv
/-! a closed example, called inside a run: its answer is known -/
def MK (f : Nat) (G : List (Nat × AB)) : Mf := fun g args c h => bif Nat.beq g f then match args with
    | [] => bif G.all (fun p => rf (cT c h p.1) (some p.2)) then some (.bool true, h) else none
    | _ => none
 else none
theorem Hd {f g : Nat} {G : List (Nat × AB)} (hne : Nat.beq g f = false) (args : List AV) (c : C) (h : H) : MK f G g args c h = none := by unfold MK; rw [hne]; rfl
theorem Gy {β : cn} {v u : Value} {x : AV} (hc : mo v = some x) (hu : VR β x u) : u = v := by
 unfold mo at hc
 split at hc <;> first | (cases hc; done) | skip
 all_goals first
  | (simp only [Option.some.injEq] at hc; subst hc; simp only [VR] at hu; first | exact hu | skip)
  | skip
 ·obtain ⟨b, rfl, hb⟩ := hu
  rename_i s
  congr 1
  have inj : ∀ (l m : List UInt8), l.map UInt8.toNat = m.map UInt8.toNat → l = m := fun l m q => List.map_inj_right (fun a b e => UInt8.toNat_inj.1 e) |>.1 q
  have := inj _ _ hb
  cases b; cases s
  simp only [ByteArray.mk.injEq]
  exact Array.toList_inj.1 this
 ·split at hc
  ·rename_i f first caps hh
   simp only [Bool.and_eq_true, Array.isEmpty_iff] at hh
   obtain ⟨h1, h2⟩ := hh
   subst h1 h2
   cases hc
   simp only [VR, bE] at hu
   obtain ⟨cs, rfl, hcs⟩ := hu
   have : cs = #[] := by simpa using hcs
   rw [this]
  ·cases hc
def MJ (G : List (Nat × List Value)) (w : World) : Prop := ∀ p ∈ G, ∃ (cur : Array Value) (t : TypeId × (Nat × Nat)), w.heap[p.1]? = some (.cells cur t.1 t.2) ∧ ∀ (i : Nat) (v : Value), p.2[i]? = some v → cur[i]? = some v
def cG (p : Nat × List Value) : Option (Nat × AB) := (p.2.mapM mo).map fun a => (p.1, AB.cells a)
theorem vG {α β : Type} {f : α → Option β} : ∀ {l : List α} {r : List β}, l.mapM f = some r → ∀ (i : Nat) (a : α), l[i]? = some a → ∃ b, r[i]? = some b ∧ f a = some b
 | [], r, e, i, a, h => by simp at h
 | x :: l, r, e, i, a, h => by
  simp only [List.mapM_cons, Option.bind_eq_bind, Option.bind_eq_some_iff, Option.pure_def, Option.some.injEq] at e
  obtain ⟨y, h1, ys, h2, rfl⟩ := e
  cases i with
  | zero => simp at h; subst h; exact ⟨y, by simp, h1⟩
  | succ i => simpa using vG h2 i a (by simpa using h)
theorem mapM_mem {α β : Type} {f : α → Option β} {l : List α} {r : List β} (e : l.mapM f = some r) {a : α} (ha : a ∈ l) : ∃ b ∈ r, f a = some b := by
 obtain ⟨i, hi, rfl⟩ := List.mem_iff_getElem.1 ha
 obtain ⟨b, h1, h2⟩ := vG e i l[i] (by simp [hi])
 exact ⟨b, List.mem_of_getElem? h1, h2⟩
theorem P2 {ng f : Nat} {G : List (Nat × List Value)} {GA : List (Nat × AB)} (hG : G.mapM cG = some GA) (hlt : ∀ p ∈ G, p.1 < ng) (hfn : ∃ fn, P.funcs[f]? = some fn ∧ fn.body.isNone = false ∧ (fn.name == "runtime.NumGoroutine") = false)
    (hk : ∀ w, MJ G w → Calls P f #[] w fun e w' => e = .returned (.bool true) ∧ Below w.heap.size w w' ∧ (dr → w.drawn ≤ w'.drawn)) : dG dr P ng (MK f GA) := by
 intro g args c h v h' q hc hw
 unfold MK at q
 cases hb : Nat.beq g f with
 | false => rw [hb] at q; cases q
 | true =>
  rw [hb] at q
  have e := Nat.eq_of_beq_eq_true hb
  subst e
  cases args with
  | cons a azs => cases q
  | nil =>
   simp only [cond] at q
   cases ha : GA.all (fun p => rf (cT c h p.1) (some p.2)) with
   | false => rw [ha] at q; cases q
   | true =>
    rw [ha] at q
    cases q
    refine lu.up ⟨Step.refl hw, hfn, fun β w cargs hgb hr hv hfr R hR => ?_⟩
    have hv' : cargs = [] := by simpa [bE] using hv
    subst hv'
    have hE : MJ G w := fun p hp => by
     obtain ⟨x, hx, hcx⟩ := mapM_mem hG hp
     have h1 := oP (List.all_eq_true.1 ha x hx)
     unfold cG at hcx
     simp only [Option.map_eq_some_iff] at hcx
     obtain ⟨avs, h2, rfl⟩ := hcx
     have h3 := dB h1
     obtain ⟨L, h4, h5, cur, t, h6, h7, h8⟩ := hr.at_ _ _ h3
     obtain ⟨s, h9⟩ := hgb p.1 (hlt p hp)
     rw [h9] at h4; cases h4
     refine ⟨cur, t, h6, fun i v hi => ?_⟩
     obtain ⟨b, h10, h11⟩ := vG h2 i v hi
     obtain ⟨u, h12, h13⟩ := h8 i b h10
     rw [Gy h11 h13] at h12
     simpa using h12
    refine (hk w hE).mono fun e w' ⟨he, hbw, hdw⟩ => ?_
    subst he
    refine hR β (.bool true) w' ⟨Nat.le_refl _, Sub.refl _, fun id L q1 q2 => by (rw [q2] at q1; cases q1), ⟨fun id b q => ?_, hr.inj⟩, hbw.os, ⟨hbw.tape, hdw⟩, hbw.output, hbw.size, fun B hB _ => hbw.block B hB, fun id L q1 q2 => by (rw [q2] at q1; cases q1), fun id b q => Or.inl ⟨b, q⟩⟩ rfl
    obtain ⟨L, q1, q2, q3⟩ := hr.at_ id b q
    exact ⟨L, q1, Nat.lt_of_lt_of_le q2 hbw.size, q3.mono (Sub.refl _) (hbw.block _ q2)⟩
end
end
section
open Go
structure zF (h : H) (sv : AV) (esz : Nat) (rows : List (List AV)) (id : Nat) : Prop where
 at_ : (rows = [] ∧ (sv = .aO ∨ ∃ oa cp, sv = .raw oa 0 cp)) ∨ (0 < rows.length ∧ (∃ cap, sv = .sl id 0 rows.length esz cap) ∧ id < h.n ∧ ∃ vs, h.get id = some (.cells vs) ∧ rows.length * esz ≤ vs.length ∧ ∀ i row, rows[i]? = some row → (vs.drop (i * esz)).take esz = row)
theorem zF.wF {h h' : H} {sv : AV} {esz : Nat} {rows : List (List AV)} {id : Nat} (a : zF h sv esz rows id) (hg : nI h h') : zF h' sv esz rows id := by
 rcases a.at_ with q | ⟨q1, q2, q3, vs, q4, q5⟩
 ·exact ⟨Or.inl q⟩
 ·exact ⟨Or.inr ⟨q1, q2, Nat.lt_of_lt_of_le q3 hg.le, vs, (hg.get id q3).trans q4, q5⟩⟩
theorem zF.jT {h h' : H} {sv : AV} {esz : Nat} {rows : List (List AV)} {id : Nat} (a : zF h sv esz rows id) (hle : h.n ≤ h'.n) (hg : id < h.n → h'.get id = h.get id) : zF h' sv esz rows id := by
 rcases a.at_ with q | ⟨q1, q2, q3, vs, q4, q5⟩
 ·exact ⟨Or.inl q⟩
 ·exact ⟨Or.inr ⟨q1, q2, Nat.lt_of_lt_of_le q3 hle, vs, (hg q3).trans q4, q5⟩⟩
section
variable {P : Program} {X : dg} {M : Mf} {c : C} {env : bu} {h : H} {K : AV → H → Prop}
end
/-! flat values: the same whatever the places -/
inductive Flat : AV → Value → Prop where
 | int (k : IntKind) (n : Int) : Flat (.int k n) (.int k n)
 | bool (b : Bool) : Flat (.bool b) (.bool b)
 | str (s : ByteArray) : Flat (.str (s.data.toList.map UInt8.toNat)) (.string s)
 | raw (oa : Option Addr) (n cp : Nat) : Flat (.raw oa n cp) (.slice oa n cp)
theorem Flat.vr {a : AV} {v : Value} (h : Flat a v) (β : cn) : VR β a v := by
 cases h with
 | int k n => simp [VR]
 | bool b => simp [VR]
 | str s => simp [VR]
 | raw oa n cp => simp [VR]
def LZ (w : World) (v : Value) (esz : Nat) (rows : List (List AV)) : Prop :=
 (rows = [] ∧ ∃ oa cp, v = .slice oa 0 cp) ∨ (0 < rows.length ∧ ∃ b off cp, ∃ (cur : Array Value) (t : TypeId × (Nat × Nat)), v = .slice (some ⟨b, off, none⟩) rows.length cp ∧ rows.length ≤ cp ∧ w.heap[b]? = some (.cells cur t.1 t.2) ∧ (off + cp * esz ≤ cur.size ∧ ∀ i, off ≤ i → i < off + cp * esz → (decide (t.2.1 ≤ i) && decide (i < t.2.2)) = false) ∧
  ∀ i row, rows[i]? = some row → row.length = esz ∧ ∀ j a, row[j]? = some a → ∃ u, cur[off + i * esz + j]? = some u ∧ Flat a u)
def Jw : Value → AV
 | .slice oa n cp => .raw oa n cp
 | _ => .aO
def Gz (id esz : Nat) (rows : List (List AV)) (v : Value) : AV := if rows = [] then Jw v else .sl id 0 rows.length esz none
def QL (v : Value) (esz : Nat) : Loc := match v with
 | .slice (some a) _ cp => ⟨a.block, a.off, a.off + cp * esz, dv⟩
 | _ => ⟨0, 0, 0, dv⟩
theorem jJ {esz : Nat} : ∀ {rows : List (List AV)}, (∀ row ∈ rows, row.length = esz) → ∀ (i : Nat) (row : List AV), rows[i]? = some row → (rows.flatten.drop (i * esz)).take esz = row
 | [], _, i, row, h => by simp at h
 | r :: rows, hl, i, row, h => by
  have h0 := hl r (by simp)
  cases i with
  | zero =>
   simp at h; subst h
   simp [List.take_append, h0]
  | succ i =>
   have := jJ (rows := rows) (fun q hq => hl q (by simp [hq])) i row (by simpa using h)
   rw [List.flatten_cons, List.drop_append, Nat.succ_mul, h0]
   have e1 : (r.drop (i * esz + esz)) = [] := List.drop_eq_nil_of_le om
   have e2 : i * esz + esz - esz = i * esz := by omega
   rw [e1, e2, List.nil_append]; exact this
theorem jK {esz : Nat} : ∀ {rows : List (List AV)}, (∀ row ∈ rows, row.length = esz) → rows.flatten.length = rows.length * esz
 | [], _ => by simp
 | r :: rows, hl => by
  rw [List.flatten_cons, List.length_append, jK (fun q hq => hl q (by simp [hq])), hl r (by simp), List.length_cons, Nat.succ_mul]; omega
theorem LZ.vr {w : World} {v : Value} {esz id : Nat} {rows : List (List AV)} (h : LZ w v esz rows) {β : cn} (hβ : rows ≠ [] → β id = some (QL v esz)) : VR β (Gz id esz rows v) v := by
 rcases h with ⟨rfl, oa, cp, rfl⟩ | ⟨h0, b, off, cp, cur, t, rfl, hcp, hb, hsz, hr⟩
 ·simp [Gz, Jw, VR]
 ·have hne : rows ≠ [] := fun q => by rw [q] at h0; simp at h0
  unfold Gz
  rw [if_neg hne]
  simp only [VR]
  exact ⟨_, off, cp, hβ hne, rfl, hcp, Nat.le_refl _, Or.inl rfl, fun c q => by cases q⟩
theorem LZ.arr {w : World} {v : Value} {esz id : Nat} {rows : List (List AV)} (h : LZ w v esz rows) {h0 : H} (bV : id < h0.n) (hg : rows ≠ [] → h0.get id = some (.cells rows.flatten)) : zF h0 (Gz id esz rows v) esz rows id := by
 rcases h with ⟨rfl, oa, cp, rfl⟩ | ⟨hl, b, off, cp, cur, t, rfl, hcp, hb, hsz, hr⟩
 ·exact ⟨Or.inl ⟨rfl, Or.inr ⟨oa, cp, by simp [Gz, Jw]⟩⟩⟩
 ·have hne : rows ≠ [] := fun q => by rw [q] at hl; simp at hl
  have hlen : ∀ row ∈ rows, row.length = esz := fun row hm => by
   obtain ⟨i, hi, rfl⟩ := List.mem_iff_getElem.1 hm
   exact (hr i _ (by simp [hi])).1
  refine ⟨Or.inr ⟨hl, ⟨none, by unfold Gz; rw [if_neg hne]⟩, bV, _, hg hne, by rw [jK hlen]; exact Nat.le_refl _, fun i row hi => jJ hlen i row hi⟩⟩
end
end Go.Proofs.YtgaihilgffficaaGreatDoor.Ev
