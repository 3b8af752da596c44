/- CoverStates, part 13 -/
import Derived.Test.YtgaihilgffficaaGreatDoorEvQ
set_option linter.all false
namespace Go.Proofs.YtgaihilgffficaaGreatDoor.Ev
open Go
/-! syntax -/
inductive SB where
 | int
 | str
 | bool
inductive SQ where
 | b (x : SB)
 | st (xs : List SB)
def SB.den : SB → iH
 | .int => r5
 | .str => eqStr
 | .bool => HX
def SQ.den : SQ → iH
 | .b x => x.den
 | .st xs => tc (xs.map SB.den)
inductive SI where
 | add | sub | mul | quo | rem | lss | leq | gtr | geq | max | min | and | or | xor | andNot
def SI.den : SI → IntKind → Int → Int → H → dH → Out
 | .add => HZ
 | .sub => H0
 | .mul => KH
 | .quo => KI
 | .rem => KJ
 | .lss => H2
 | .leq => H3
 | .gtr => H4
 | .geq => H5
 | .max => RR
 | .min => RS
 | .and => p7 Nat.land
 | .or => p7 Nat.lor
 | .xor => p7 Nat.xor
 | .andNot => KN
inductive SS where
 | lss | leq | gtr | geq
def SS.den : SS → List Nat → List Nat → Bool
 | .lss => KK
 | .leq => RQ
 | .gtr => KL
 | .geq => KM
inductive SO where
 | mv (x : XV)
 | pick (b x y : XV)
 | box (x : XV)
 | build (z : List AV) (ps : List (Nat × Nat × XV))
 | cr (n : Nat) (z : List AV) (ps : List (Nat × Nat × XV))
 | aB (x : XV)
 | ax (n : Nat) (x : XV)
 | store (n : Nat) (a x : XV)
 | bx (x : XV)
 | ints (f : SI) (x y : XV)
 | eql (q : SQ) (neg : Bool) (x y : XV)
 | cat (x y : XV)
 | Hh (f : SS) (x y : XV)
 | Sk (neg : Bool) (x : XV)
 | M1 (neg : Bool) (x : XV)
 | Sm (neg : Bool) (x : XV)
 | Sn (neg : Bool) (x : XV)
 | not (x : XV)
 | toInt (p : IntKind) (x : XV)
 | same (x : XV)
 | Jq (x : XV)
 | slice (esz : Nat) (x : XV) (lo hi : Option XV)
 | ub (x : XV) (lo hi : Option XV)
 | au (o : Nat) (x : XV)
 | Hf (o : Nat) (x : XV)
 | Of (n o : Nat) (x : XV)
 | aR (esz : Nat) (x i : XV)
 | l5 (x i : XV)
 | lookup (q : SQ) (z : AV) (x key : XV) (ok : Bool)
 | lj (q : SQ) (m key v : XV)
 | rQ
 | yr (x : XV)
 | tm (z : List AV) (l cp : XV)
 | bC (x : XV) (i : Nat)
 | yp (f : Nat) (cs : List XV)
 | kh (x : XV)
 | aS (x : XV)
 | QF (x : XV)
 | append (esz by_ : Nat) (s x : XV)
 | call (f : XV) (args : List XV)
 | Sq (t : Nat) (x : XV)
 | MZ (n : Nat) (x i : XV)
 | CC (n esz : Nat) (x i : XV)
 | slice3 (esz : Nat) (x : XV) (lo hi mx : Option XV)
 | bad
def SO.den : SO → XO
 | .mv x => Q5 x
 | .pick b x y => w9 b x y
 | .box x => A4 x
 | .build z ps => rh z ps
 | .cr n z ps => pX n z ps
 | .aB x => uO x
 | .ax n x => uP n x
 | .store n a x => uQ n a x
 | .bx x => xa x
 | .ints f x y => Ev.ints f.den x y
 | .eql q nn x y => H6 q.den nn x y
 | .cat x y => RP x y
 | .Hh f x y => r6 f.den x y
 | .Sk n x => Ec n x
 | .M1 n x => pY n x
 | .Sm n x => Qe n x
 | .Sn n x => Qf n x
 | .not x => H7 x
 | .toInt p x => yQ p x
 | .same x => A5 x
 | .Jq x => FC x
 | .slice e x lo hi => mi e x lo hi
 | .ub x lo hi => pZ x lo hi
 | .au o x => uR o x
 | .Hf o x => A6 o x
 | .Of n o x => Mt n o x
 | .aR e x i => uS e x i
 | .l5 x i => A7 x i
 | .lookup q z x key ok => p5 q.den z x key ok
 | .lj q m key v => ri q.den m key v
 | .rQ => uT
 | .yr x => p9 x
 | .tm z l cp => mj z l cp
 | .bC x i => A8 x i
 | .yp f cs => A9 f cs
 | .kh x => Bb x
 | .aS x => uU x
 | .QF x => Ed x
 | .append e b s x => eI e b s x
 | .call f args => Bc f args
 | .Sq t x => H8 t x
 | .MZ n x i => Be n x i
 | .CC n e x i => p8 n e x i
 | .slice3 e x lo hi mx => KO e x lo hi mx
 | .bad => KP
structure SR where
 dst : Option Nat
 op : SO
 guard : Option (Nat × Bool)
 bt : Nat
 mem : Bool
 oJ : Bool
 fc : Option XV
def SR.den (r : SR) : XR := ⟨r.dst, r.op.den, r.guard, r.bt, r.mem, r.oJ, r.fc⟩
inductive SC where
 | skip
 | JL (ops : List SR)
 | br (ops : List SR)
 | seq (a b : SC)
 | cond (c : XV) (a b : SC)
 | block (id : Nat) (b : SC)
 | loop (b : SC)
 | exit (id : Nat)
 | ret
 | bad
def SC.den : SC → XC
 | .skip => .skip
 | .JL ops => .JL (ops.map SR.den)
 | .br ops => .br (ops.map SR.den)
 | .seq a b => .seq a.den b.den
 | .cond c a b => .cond c a.den b.den
 | .block id b => .block id b.den
 | .loop b => .loop b.den
 | .exit id => .exit id
 | .ret => .ret
 | .bad => .bad
/-! what the bd hold, azs far azs it is known -/
abbrev bu := List (Nat × AV)
def look : bu → Nat → Option AV
 | [], _ => none
 | (k, v) :: l, t => bif Nat.beq k t then some v else look l t
def Has (sl : Tr AV) (env : bu) : Prop := ∀ t v, look env t = some v → slot sl t = v
theorem Has.put {sl : Tr AV} {env : bu} (h : Has sl env) {d : Nat} (hd : d < d + 1) (v : AV) : Has (Tr.set depth sl d v) ((d, v) :: env) := fun t u q => by
 rw [mu hd]
 simp only [look] at q
 rw [mS] at q
 by_cases e : d = t
 ·rw [if_pos e]; simp [e] at q; exact q
 ·rw [if_neg e]; simp [e] at q; exact h t u q
theorem Has.nil (sl : Tr AV) : Has sl [] := fun t v q => by cases q
def wE (d : Option Nat) (v : AV) (env : bu) : bu := match d with
 | none => env
 | some d => (d, v) :: env
def nT (nt : Nat) : Option Nat → Bool
 | none => true
 | some d => Nat.blt d nt
theorem jq {R : Type} {nt : Nat} (hnt : nt ≤ 1000000) {sl : Tr AV} {env : bu} (h : Has sl env) {d : Option Nat} (hd : nT nt d = true) (v : AV) :
    ∃ sl', Has sl' (wE d v env) ∧ ∀ k : Tr AV → Option R, rj nt sl d v k = k sl' := by
 cases d with
 | none => exact ⟨sl, h, fun k => rfl⟩
 | some d =>
  have hb : Nat.blt d nt = true := hd
  have hd' : d < nt := by simpa [Nat.blt_eq] using hb
  refine ⟨Tr.set depth sl d v, h.put om v, fun k => ?_⟩
  unfold rj
  simp only [hb, cond, Tr.kY]
def dX (env : bu) : XV → Option AV
 | .tmp t => look env t
 | .const v => some v
 | .Ar g => some (.ptr g 0)
theorem Has.ev {sl : Tr AV} {env : bu} (h : Has sl env) {x : XV} {v : AV} (e : dX env x = some v) : bR sl x = v := by
 cases x with
 | tmp t => exact h t v e
 | const u => cases e; rfl
 | Ar g => cases e; rfl
def DB (env : bu) : List XV → Option (List AV)
 | [] => some []
 | x :: xs => match dX env x, DB env xs with
  | some v, some vs => some (v :: vs)
  | _, _ => none
theorem Has.Lt {sl : Tr AV} {env : bu} (h : Has sl env) : ∀ {xs : List XV} {vs : List AV}, DB env xs = some vs → xs.map (bR sl) = vs
 | [], vs, e => by cases e; rfl
 | x :: xs, vs, e => by
  simp only [DB] at e
  split at e
  ·rename_i v us h1 h2
   cases e
   rw [List.map_cons, h.ev h1, h.Lt h2]
  ·cases e
def cW (env : bu) : Option (Nat × Bool) → Option Bool
 | none => some true
 | some (t, w) => match look env t with
  | some (.bool b) => some (b == w)
  | some (.bO _) => some false
  | _ => none
theorem Has.dy {sl : Tr AV} {env : bu} (h : Has sl env) {g : Option (Nat × Bool)} {b : Bool} (e : cW env g = some b) : Ev.dy sl g = b := by
 cases g with
 | none => cases e; rfl
 | some p =>
  obtain ⟨t, w⟩ := p
  simp only [cW] at e
  split at e
  ·rename_i b' hb
   cases e
   simp only [Ev.dy, h t _ hb]
  ·rename_i l hb
   cases e
   simp only [Ev.dy, h t _ hb]
  ·cases e
theorem Has.okW {sl : Tr AV} {env : bu} (h : Has sl env) {g : Option (Nat × Bool)} {b : Bool} (e : cW env g = some b) : Ev.okW sl g = true := by
 cases g with
 | none => rfl
 | some p =>
  obtain ⟨t, w⟩ := p
  simp only [cW] at e
  split at e
  ·rename_i b' hb
   simp only [Ev.okW, h t _ hb, Qh]
  ·rename_i l hb
   simp only [Ev.okW, h t _ hb, Qh]
  ·cases e
def DJ (env env' : bu) : Prop := ∀ t v, look env t = some v → look env' t = some v
theorem Has.less {sl : Tr AV} {env env' : bu} (h : Has sl env') (hs : DJ env env') : Has sl env := fun t v q => h t v (hs t v q)
theorem DJ.nil (env : bu) : DJ [] env := fun t v q => by cases q
theorem DJ.cons {env env' : bu} {t : Nat} {v : AV} (h : look env' t = some v) (hs : DJ env env') : DJ ((t, v) :: env) env' := fun t' v' q => by
 simp only [look] at q
 rw [mS] at q
 by_cases e : t = t'
 ·subst e; simp at q; rw [← q]; exact h
 ·simp [e] at q; exact hs t' v' q
section
variable (P : Program) (X : dg) (M : Mf)
def D8 (c : C) (f : NN) (args : List AV) (h : H) (v : AV) (h' : H) : Prop := ∃ N, ∀ n, N ≤ n → ev (cC P) (bW P X) M n c (.call f args) h = .call v h'
def Gv (c : C) (f : Nat) (args : List AV) (h : H) (K : AV → H → Prop) : Prop := ∃ v h', D8 P X M c (.fn f) args h v h' ∧ K v h'
structure WO (c : C) (o : SO) (env : bu) (h : H) (K : AV → H → Prop) : Prop where
 run : ∀ sl, Has sl env → ∃ v h', (∃ N, ∀ n, N ≤ n → ∀ k : dH, o.den c (gm (ev (cC P) (bW P X) M n)) sl h k = k v h') ∧ K v h'
structure WG (c : C) (nt : Nat) (ops : List SR) (env : bu) (h : H) (Q : bu → H → Prop) : Prop where
 run : ∀ sl, Has sl env → ∃ sl' h' env', (∃ N, ∀ n, N ≤ n → kq c (gm (ev (cC P) (bW P X) M n)) nt (ops.map SR.den) sl h = some (sl', h')) ∧ Has sl' env' ∧ Q env' h'
structure WD (c : C) (nt : Nat) (base : List (Nat × Nat)) (ops : List SR) (i : Nat) (rs : List (Nat × Nat × Nat)) (bs : List (Nat × Tr AB × Tr AB)) (fs : List (Nat × Nat)) (env : bu) (h : H) (Q : bu → H → Prop) : Prop where
 run : ∀ sl, Has sl env → ∃ sl' h' env', (∃ N, ∀ n, N ≤ n → cN c (gm (ev (cC P) (bW P X) M n)) nt base (ops.map SR.den) i rs bs fs sl h = some (sl', h')) ∧ Has sl' env' ∧ Q env' h'
structure WC (c : C) (nt : Nat) (x : SC) (env : bu) (h : H) (Q : Ex → bu → H → Prop) : Prop where
 run : ∀ sl, Has sl env → ∃ e sl' h' env', (∃ N, ∀ n, N ≤ n → ∀ rd ds, ev (cC P) (bW P X) M n c (.code nt rd x.den sl ds) h = .code e sl' ds h') ∧ Has sl' env' ∧ Q e env' h'
end
section
variable {P : Program} {X : dg} {M : Mf} {c : C} {nt : Nat} {env : bu} {h : H}
theorem WC.mono {x : SC} {Q Q' : Ex → bu → H → Prop} (w : WC P X M c nt x env h Q) (hq : ∀ e env h, Q e env h → Q' e env h) : WC P X M c nt x env h Q' := .mk fun sl hs => by
 obtain ⟨e, sl', h', env', h1, h2, h3⟩ := w.run sl hs
 exact ⟨e, sl', h', env', h1, h2, hq _ _ _ h3⟩
theorem WC.less {x : SC} {env1 : bu} {Q : Ex → bu → H → Prop} (w : WC P X M c nt x env1 h Q) (hs : DJ env1 env) : WC P X M c nt x env h Q := .mk fun sl hh => w.run sl (hh.less hs)
theorem Gv.mono {f : Nat} {args : List AV} {K K' : AV → H → Prop} (w : Gv P X M c f args h K) (hk : ∀ v h', K v h' → K' v h') : Gv P X M c f args h K' := by
 obtain ⟨v, h', h1, h2⟩ := w
 exact ⟨v, h', h1, hk _ _ h2⟩
theorem WO.mono {o : SO} {K K' : AV → H → Prop} (w : WO P X M c o env h K) (hk : ∀ v h', K v h' → K' v h') : WO P X M c o env h K' := .mk fun sl hs => by
 obtain ⟨v, h', h1, h2⟩ := w.run sl hs
 exact ⟨v, h', h1, hk _ _ h2⟩
theorem LD {Q : Ex → bu → H → Prop} (q : Q .normal env h) : WC P X M c nt .skip env h Q := .mk fun sl hs =>
 ⟨.normal, sl, h, env, ⟨1, fun n hn rd ds => by cases n with | zero => omega | succ n => rfl⟩, hs, q⟩
theorem LG {id : Nat} {Q : Ex → bu → H → Prop} (q : Q (.exit id) env h) : WC P X M c nt (.exit id) env h Q := .mk fun sl hs =>
 ⟨.exit id, sl, h, env, ⟨1, fun n hn rd ds => by cases n with | zero => omega | succ n => rfl⟩, hs, q⟩
theorem OB {Q : Ex → bu → H → Prop} (q : Q .ret env h) : WC P X M c nt .ret env h Q := .mk fun sl hs =>
 ⟨.ret, sl, h, env, ⟨1, fun n hn rd ds => by cases n with | zero => omega | succ n => rfl⟩, hs, q⟩
structure QJ (P : Program) (X : dg) (M : Mf) (c : C) (nt : Nat) (b : SC) (Q : Ex → bu → H → Prop) (e : Ex) (env : bu) (h : H) : Prop where
 get : match e with
  | .normal => WC P X M c nt b env h Q
  | e => Q e env h
theorem OD {a b : SC} {Q : Ex → bu → H → Prop} (w : WC P X M c nt a env h (QJ P X M c nt b Q)) : WC P X M c nt (.seq a b) env h Q := .mk fun sl hs => by
 obtain ⟨e, sl1, h1, env1, ⟨N, hN⟩, hs1, q⟩ := w.run sl hs
 cases e with
 | normal =>
  obtain ⟨e2, sl2, h2, env2, ⟨N2, hN2⟩, hs2, q2⟩ := q.get.run sl1 hs1
  refine ⟨e2, sl2, h2, env2, ⟨N + N2 + 1, fun n hn rd ds => ?_⟩, hs2, q2⟩
  cases n with
  | zero => omega
  | succ n =>
   show dT _ c nt rd b.den (ev (cC P) (bW P X) M n c (.code nt rd a.den sl ds) h) = _
   rw [hN n (by omega) rd ds]
   exact hN2 n om rd ds
 | exit id =>
  refine ⟨.exit id, sl1, h1, env1, ⟨N + 1, fun n hn rd ds => ?_⟩, hs1, q.get⟩
  cases n with
  | zero => omega
  | succ n =>
   show dT _ c nt rd b.den (ev (cC P) (bW P X) M n c (.code nt rd a.den sl ds) h) = _
   rw [hN n (by omega) rd ds]; rfl
 | ret =>
  refine ⟨.ret, sl1, h1, env1, ⟨N + 1, fun n hn rd ds => ?_⟩, hs1, q.get⟩
  cases n with
  | zero => omega
  | succ n =>
   show dT _ c nt rd b.den (ev (cC P) (bW P X) M n c (.code nt rd a.den sl ds) h) = _
   rw [hN n (by omega) rd ds]; rfl
theorem EG {v : XV} {a b : SC} {t : Bool} {Q : Ex → bu → H → Prop} (hv : dX env v = some (.bool t)) (wt : t = true → WC P X M c nt a env h Q) (wf : t = false → WC P X M c nt b env h Q) : WC P X M c nt (.cond v a b) env h Q := .mk fun sl hs => by
 have hv' := hs.ev hv
 cases t with
 | true =>
  obtain ⟨e, sl1, h1, env1, ⟨N, hN⟩, hs1, q⟩ := (wt rfl).run sl hs
  refine ⟨e, sl1, h1, env1, ⟨N + 1, fun n hn rd ds => ?_⟩, hs1, q⟩
  cases n with
  | zero => omega
  | succ n =>
   show mP _ c nt rd a.den b.den sl ds h (bR sl v) = _
   rw [hv']
   exact hN n om rd ds
 | false =>
  obtain ⟨e, sl1, h1, env1, ⟨N, hN⟩, hs1, q⟩ := (wf rfl).run sl hs
  refine ⟨e, sl1, h1, env1, ⟨N + 1, fun n hn rd ds => ?_⟩, hs1, q⟩
  cases n with
  | zero => omega
  | succ n =>
   show mP _ c nt rd a.den b.den sl ds h (bR sl v) = _
   rw [hv']
   exact hN n om rd ds
structure QK (id : Nat) (Q : Ex → bu → H → Prop) (e : Ex) (env : bu) (h : H) : Prop where
 get : match e with
  | .exit id' => bif Nat.beq id' id then Q .normal env h else Q (.exit id') env h
  | e => Q e env h
theorem Jj {id : Nat} {b : SC} {Q : Ex → bu → H → Prop} (w : WC P X M c nt b env h (QK id Q)) : WC P X M c nt (.block id b) env h Q := .mk fun sl hs => by
 obtain ⟨e, sl1, h1, env1, ⟨N, hN⟩, hs1, q⟩ := w.run sl hs
 have go : ∀ e', eA id (.code e sl1 [] h1) = .code e' sl1 [] h1 → (∀ ds, eA id (.code e sl1 ds h1) = .code e' sl1 ds h1) → Q e' env1 h1 → ∃ e sl' h' env', (∃ N, ∀ n, N ≤ n → ∀ rd ds, ev (cC P) (bW P X) M n c (.code nt rd (SC.den (.block id b)) sl ds) h = .code e sl' ds h') ∧ Has sl' env' ∧ Q e env' h' := fun e' _ he q' => by
  refine ⟨e', sl1, h1, env1, ⟨N + 1, fun n hn rd ds => ?_⟩, hs1, q'⟩
  cases n with
  | zero => omega
  | succ n =>
   show eA id (ev (cC P) (bW P X) M n c (.code nt rd b.den sl ds) h) = _
   rw [hN n (by omega) rd ds]
   exact he ds
 cases e with
 | normal => exact go .normal rfl (fun _ => rfl) q.get
 | ret => exact go .ret rfl (fun _ => rfl) q.get
 | exit id' =>
  have q := q.get
  simp only at q
  cases hb : Nat.beq id' id with
  | true =>
   rw [hb] at q
   exact go .normal (by simp only [eA, hb, cond]) (fun ds => by simp only [eA, hb, cond]) q
  | false =>
   rw [hb] at q
   exact go (.exit id') (by simp only [eA, hb, cond]) (fun ds => by simp only [eA, hb, cond]) q
/-! regions -/
theorem OF {ops : List SR} {Q : Ex → bu → H → Prop} (w : WG P X M c nt ops env h (Q .normal)) : WC P X M c nt (.JL ops) env h Q := .mk fun sl hs => by
 obtain ⟨sl1, h1, env1, ⟨N, hN⟩, hs1, q⟩ := w.run sl hs
 refine ⟨.normal, sl1, h1, env1, ⟨N + 1, fun n hn rd ds => ?_⟩, hs1, q⟩
 cases n with
 | zero => omega
 | succ n =>
  show rk ds (kq c (gm (ev (cC P) (bW P X) M n)) nt (ops.map SR.den) sl h) = _
  rw [hN n (by omega)]; rfl
theorem Ov {Q : bu → H → Prop} (q : Q env h) : WG P X M c nt [] env h Q := .mk fun sl hs => ⟨sl, h, env, ⟨0, fun n _ => rfl⟩, hs, q⟩
theorem MH {o : SR} {ops : List SR} {Q : bu → H → Prop} (hnt : nt ≤ 1000000) (hg : cW env o.guard = some true) (hd : nT nt o.dst = true) (w : WO P X M c o.op env h (fun v h' => WG P X M c nt ops (wE o.dst v env) h' Q)) : WG P X M c nt (o :: ops) env h Q := .mk fun sl hs => by
 obtain ⟨v, h1, ⟨N, hN⟩, q⟩ := w.run sl hs
 obtain ⟨sl1, hs1, hp⟩ := jq (R := Tr AV × H) hnt hs hd v
 obtain ⟨sl2, h2, env2, ⟨N2, hN2⟩, hs2, q2⟩ := q.run sl1 hs1
 refine ⟨sl2, h2, env2, ⟨N + N2, fun n hn => ?_⟩, hs2, q2⟩
 have hw := hs.dy hg
 have hk := hs.okW hg
 show kq c _ nt (o.den :: ops.map SR.den) sl h = _
 unfold kq
 simp only [SR.den, hw, cond]
 rw [hN n (by omega), hp]
 exact hN2 n om
theorem Jr {o : SR} {ops : List SR} {Q : bu → H → Prop} (hnt : nt ≤ 1000000) (hg : cW env o.guard = some false) (hd : nT nt o.dst = true) (w : WG P X M c nt ops (wE o.dst (.bO []) env) h Q) : WG P X M c nt (o :: ops) env h Q := .mk fun sl hs => by
 obtain ⟨sl1, hs1, hp⟩ := jq (R := Tr AV × H) hnt hs hd (.bO [])
 obtain ⟨sl2, h2, env2, ⟨N2, hN2⟩, hs2, q2⟩ := w.run sl1 hs1
 refine ⟨sl2, h2, env2, ⟨N2, fun n hn => ?_⟩, hs2, q2⟩
 have hw := hs.dy hg
 have hk := hs.okW hg
 show kq c _ nt (o.den :: ops.map SR.den) sl h = _
 unfold kq
 simp only [SR.den, hw, hk, cond]
 rw [hp]
 exact hN2 n om
/-! regions that draw -/
theorem LJ {ops : List SR} {Q : Ex → bu → H → Prop} (w : WD P X M c nt (bD h.n c.cM) ops 0 [] [] [] env h (Q .normal)) : WC P X M c nt (.br ops) env h Q := .mk fun sl hs => by
 obtain ⟨sl1, h1, env1, ⟨N, hN⟩, hs1, q⟩ := w.run sl hs
 refine ⟨.normal, sl1, h1, env1, ⟨N + 1, fun n hn rd ds => ?_⟩, hs1, q⟩
 cases n with
 | zero => omega
 | succ n =>
  show rk ds (cN c (gm (ev (cC P) (bW P X) M n)) nt (bD h.n c.cM) (ops.map SR.den) 0 [] [] [] sl h) = _
  rw [hN n (by omega)]; rfl
variable {base : List (Nat × Nat)} {i : Nat} {rs : List (Nat × Nat × Nat)} {bs : List (Nat × Tr AB × Tr AB)} {fs : List (Nat × Nat)}
theorem ON {Q : bu → H → Prop} (q : Q env h) : WD P X M c nt base [] i rs bs fs env h Q := .mk fun sl hs => ⟨sl, h, env, ⟨0, fun n _ => rfl⟩, hs, q⟩
theorem O0 {o : SR} {ops : List SR} {Q : bu → H → Prop} (hnt : nt ≤ 1000000) (hg : cW env o.guard = some false) (hd : nT nt o.dst = true) (w : WD P X M c nt base ops (i + 1) rs bs fs (wE o.dst (.bO []) env) h Q) : WD P X M c nt base (o :: ops) i rs bs fs env h Q := .mk fun sl hs => by
 obtain ⟨sl1, hs1, hp⟩ := jq (R := Tr AV × H) hnt hs hd (.bO [])
 obtain ⟨sl2, h2, env2, ⟨N2, hN2⟩, hs2, q2⟩ := w.run sl1 hs1
 refine ⟨sl2, h2, env2, ⟨N2, fun n hn => ?_⟩, hs2, q2⟩
 have hw := hs.dy hg
 have hk := hs.okW hg
 show cN c _ nt base (o.den :: ops.map SR.den) i rs bs fs sl h = _
 unfold cN
 simp only [SR.den, hw, hk, cond]
 rw [hp]
 exact hN2 n om
theorem LW {o : SR} {ops : List SR} {Q : bu → H → Prop} (hnt : nt ≤ 1000000) (hg : cW env o.guard = some true) (hd : nT nt o.dst = true) (hf : o.fc = none) (hm : o.mem = false)
    (w : WO P X M ⟨h.n, [(h.n, jf)]⟩ o.op env h (fun v h' => WD P X M c nt base ops (i + 1) (gL i h.n h'.n rs) bs fs (wE o.dst v env) h' Q)) : WD P X M c nt base (o :: ops) i rs bs fs env h Q := .mk fun sl hs => by
 obtain ⟨v, h1, ⟨N, hN⟩, q⟩ := w.run sl hs
 obtain ⟨sl1, hs1, hp⟩ := jq (R := Tr AV × H) hnt hs hd v
 obtain ⟨sl2, h2, env2, ⟨N2, hN2⟩, hs2, q2⟩ := q.run sl1 hs1
 refine ⟨sl2, h2, env2, ⟨N + N2, fun n hn => ?_⟩, hs2, q2⟩
 have hw := hs.dy hg
 have hk := hs.okW hg
 show cN c _ nt base (o.den :: ops.map SR.den) i rs bs fs sl h = _
 unfold cN
 simp only [SR.den, hw, cond, hf, hm]
 rw [hN n (by omega), hp]
 exact hN2 n om
theorem LX {o : SR} {ops : List SR} {x : XV} {a : AV} {A : Nat} {Q : bu → H → Prop} (hnt : nt ≤ 1000000) (hg : cW env o.guard = some true) (hd : nT nt o.dst = true) (hf : o.fc = some x) (ha : dX env x = some a) (hA : yS a = some A)
    (hsee : seen ((h.n, jf) :: cE o.bt base rs) A = true) (hun : ml o.bt A bs = true)
    (w : WO P X M ⟨h.n, [(h.n, jf), (A, Nat.succ A)]⟩ o.op env h (fun v h' => WD P X M c nt base ops (i + 1) (gL i h.n h'.n rs) bs ((i, A) :: fs) (wE o.dst v env) h' Q)) : WD P X M c nt base (o :: ops) i rs bs fs env h Q := .mk fun sl hs => by
 obtain ⟨v, h1, ⟨N, hN⟩, q⟩ := w.run sl hs
 obtain ⟨sl1, hs1, hp⟩ := jq (R := Tr AV × H) hnt hs hd v
 obtain ⟨sl2, h2, env2, ⟨N2, hN2⟩, hs2, q2⟩ := q.run sl1 hs1
 refine ⟨sl2, h2, env2, ⟨N + N2, fun n hn => ?_⟩, hs2, q2⟩
 have hw := hs.dy hg
 have he := hs.ev ha
 show cN c _ nt base (o.den :: ops.map SR.den) i rs bs fs sl h = _
 unfold cN
 simp only [SR.den, hw, cond, hf, he, hA, hsee, hun, Bool.and_self]
 rw [hN n (by omega), hp]
 exact hN2 n om
theorem O1 {o : SR} {ops : List SR} {Q : bu → H → Prop} (hnt : nt ≤ 1000000) (hg : cW env o.guard = some true) (hd : nT nt o.dst = true) (hf : o.fc = none) (hm : o.mem = true) (hb : o.oJ = false)
    (w : WO P X M ⟨h.n, (h.n, jf) :: cE o.bt base rs⟩ o.op env h (fun v h' => WD P X M c nt base ops (i + 1) (gL i h.n h'.n rs) bs fs (wE o.dst v env) h' Q)) : WD P X M c nt base (o :: ops) i rs bs fs env h Q := .mk fun sl hs => by
 obtain ⟨v, h1, ⟨N, hN⟩, q⟩ := w.run sl hs
 obtain ⟨sl1, hs1, hp⟩ := jq (R := Tr AV × H) hnt hs hd v
 obtain ⟨sl2, h2, env2, ⟨N2, hN2⟩, hs2, q2⟩ := q.run sl1 hs1
 refine ⟨sl2, h2, env2, ⟨N + N2, fun n hn => ?_⟩, hs2, q2⟩
 have hw := hs.dy hg
 have hk := hs.okW hg
 show cN c _ nt base (o.den :: ops.map SR.den) i rs bs fs sl h = _
 unfold cN
 simp only [SR.den, hw, cond, hf, hm, hb]
 rw [hN n (by omega), hp]
 exact hN2 n om
theorem Js {o : SR} {ops : List SR} {Q : bu → H → Prop} (hnt : nt ≤ 1000000) (hg : cW env o.guard = some true) (hd : nT nt o.dst = true) (hf : o.fc = none) (hm : o.mem = true) (hb : o.oJ = true)
    (w : WO P X M ⟨c.floor, (h.n, jf) :: cE o.bt base rs⟩ o.op env h (fun v h' => ji o.bt h.t h'.t fs = true ∧ WD P X M c nt base ops (i + 1) (gL i h.n h'.n rs) ((i, h.t, h'.t) :: bs) fs (wE o.dst v env) h' Q)) : WD P X M c nt base (o :: ops) i rs bs fs env h Q := .mk fun sl hs => by
 obtain ⟨v, h1, ⟨N, hN⟩, hun, q⟩ := w.run sl hs
 obtain ⟨sl1, hs1, hp⟩ := jq (R := Tr AV × H) hnt hs hd v
 obtain ⟨sl2, h2, env2, ⟨N2, hN2⟩, hs2, q2⟩ := q.run sl1 hs1
 refine ⟨sl2, h2, env2, ⟨N + N2, fun n hn => ?_⟩, hs2, q2⟩
 have hw := hs.dy hg
 have hk := hs.okW hg
 show cN c _ nt base (o.den :: ops.map SR.den) i rs bs fs sl h = _
 unfold cN
 simp only [SR.den, hw, cond, hf, hm, hb]
 rw [hN n (by omega), hun, hp]
 exact hN2 n om
/-! calls -/
def LH : List AV → Nat → bu → bu
 | [], _, env => env
 | v :: vs, i, env => LH vs (i + 1) ((i, v) :: env)
theorem BU : ∀ (vs : List AV) (i : Nat) (sl : Tr AV) (env : bu), Has sl env → i + vs.length ≤ 1000000 → Has (jW vs i sl) (LH vs i env)
 | [], i, sl, env, hs, _ => hs
 | v :: vs, i, sl, env, hs, hl => by
  simp only [List.length_cons] at hl
  exact BU vs (i + 1) _ _ (hs.put om v) om
def BO (c : C) (h : H) (env : bu) : List (Nat × Option (Option Nat)) → Option (List AV)
 | [] => some []
 | r :: rs => match look env r.1, BO c h env rs with
  | some v, some vs => match r.2 with
   | none => some (v :: vs)
   | some n => match v with
    | .ptr id off => match cT c h id with
     | some (.cells cs) => match n with
      | none => match nth off cs with
       | some u => some (u :: vs)
       | none => none
      | some n => match jg off cs fun cs => gh n cs fun cs => some cs with
       | some us => some (.agg us :: vs)
       | none => none
     | _ => none
    | _ => none
  | _, _ => none
theorem qA {sl : Tr AV} (hs : Has sl env) : ∀ {rs : List (Nat × Option (Option Nat))} {vs : List AV}, BO c h env rs = some vs → ∀ k, mm c h sl rs k = k vs
 | [], vs, e, k => by cases e; rfl
 | r :: rs, vs, e, k => by
  simp only [BO] at e
  split at e
  ·rename_i v us h1 h2
   have hv := hs _ _ h1
   unfold mm
   split at e
   ·rename_i hr
    cases e
    rw [hr]
    simp only
    rw [qA hs h2, hv]
   ·rename_i n hr
    rw [hr]
    simp only
    rw [hv]
    split at e
    ·rename_i id off
     simp only
     split at e
     ·rename_i cs hg
      rw [hg]
      simp only
      split at e
      ·split at e
       ·rename_i u hu
        cases e
        simp only [hu]
        rw [qA hs h2]
       ·cases e
      ·split at e
       ·rename_i us' hu
        cases e
        simp only [hu]
        rw [qA hs h2]
       ·cases e
     ·cases e
    ·cases e
  ·cases e
def LI : List AV → AV
 | [v] => v
 | vs => .bO vs
theorem xD (h : H) : ∀ (vs : List AV), oK h vs = .call (LI vs) h
 | [] => rfl
 | [v] => rfl
 | v :: u :: vs => rfl
theorem QH {f : Nat} {args : List AV} {res : List (Nat × Option (Option Nat))} {s : SC} {K : AV → H → Prop} (ht : bW P X f = some (.fn ⟨nt, res, s.den⟩)) (hM : M f args c h = none) (hl : args.length ≤ nt) (hnt : nt ≤ 1000000)
    (w : WC P X M c nt s (LH args 0 []) h (fun e env h' => (e = .normal ∨ e = .ret) ∧ ∃ vs, BO c h' env res = some vs ∧ K (LI vs) h')) : Gv P X M c f args h K := by
 obtain ⟨e, sl1, h1, env1, ⟨N, hN⟩, hs1, he, vs, hr, hk⟩ := w.run (jW args 0 .nil) (BU args 0 .nil [] (Has.nil _) om)
 refine ⟨LI vs, h1, ⟨N + 2, fun n hn => ?_⟩, hk⟩
 cases n with
 | zero => omega
 | succ n =>
  show (match M f args c h with | some r => lr.call r.1 r.2 | none => jF (ev (cC P) (bW P X) M n) c args h (bW P X f)) = _
  rw [hM, ht]
  show (bif Nat.ble (iG args) nt then slotsOf args 0 .nil fun sl => yT c res (ev (cC P) (bW P X) M n c (.code nt false s.den sl []) h) else .bad) = _
  rw [dw, Nat.ble_eq_true_of_le hl]
  simp only [cond, oM]
  rw [hN n (by omega)]
  rcases he with rfl | rfl
  ·simp only [yT, r7]
   rw [qA hs1 hr, xD]
  ·simp only [yT, r7]
   rw [qA hs1 hr, xD]
end
end Go.Proofs.YtgaihilgffficaaGreatDoor.Ev
