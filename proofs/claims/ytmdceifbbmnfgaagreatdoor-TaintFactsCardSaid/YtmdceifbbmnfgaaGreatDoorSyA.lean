/- Symbolic runs of the evaluator: judgments, rules. -/
import Derived.Test.YtmdceifbbmnfgaaGreatDoorEvQ
set_option linter.unusedVariables false
set_option linter.unusedSimpArgs false
namespace Go.Proofs.YtmdceifbbmnfgaaGreatDoor.Ev
open Go
/-! syntax -/
inductive SB where
 | int
 | str
 | bool
inductive SQ where
 | b (x : SB)
 | st (xs : List SB)
def SB.den : SB → EqF
 | .int => eqInt
 | .str => eqStr
 | .bool => eqBl
def SQ.den : SQ → EqF
 | .b x => x.den
 | .st xs => eqSt (xs.map SB.den)
inductive SI where
 | add | sub | mul | quo | rem | lss | leq | gtr | geq | max | min | and | or | xor | andNot
def SI.den : SI → IntKind → Int → Int → H → Kont → Out
 | .add => fAdd
 | .sub => fSub
 | .mul => fMul
 | .quo => fQuo
 | .rem => fRem
 | .lss => fLss
 | .leq => fLeq
 | .gtr => fGtr
 | .geq => fGeq
 | .max => fMax
 | .min => fMin
 | .and => onNat Nat.land
 | .or => onNat Nat.lor
 | .xor => onNat Nat.xor
 | .andNot => fAndNot
inductive SS where
 | lss | leq | gtr | geq
def SS.den : SS → List Nat → List Nat → Bool
 | .lss => sLss
 | .leq => sLeq
 | .gtr => sGtr
 | .geq => sGeq
inductive SO where
 | mv (x : XV)
 | pick (b x y : XV)
 | box (x : XV)
 | build (z : List AV) (ps : List (Nat × Nat × XV))
 | bslice (n : Nat) (z : List AV) (ps : List (Nat × Nat × XV))
 | load1 (x : XV)
 | loadN (n : Nat) (x : XV)
 | store (n : Nat) (a x : XV)
 | nilc (x : XV)
 | ints (f : SI) (x y : XV)
 | eql (q : SQ) (neg : Bool) (x y : XV)
 | cat (x y : XV)
 | scmp (f : SS) (x y : XV)
 | nilP (neg : Bool) (x : XV)
 | nilS (neg : Bool) (x : XV)
 | nilM (neg : Bool) (x : XV)
 | nilF (neg : Bool) (x : XV)
 | not (x : XV)
 | neg (x : XV)
 | toInt (p : IntKind) (x : XV)
 | same (x : XV)
 | bytesStr (x : XV)
 | slice (esz : Nat) (x : XV) (lo hi : Option XV)
 | sliceS (x : XV) (lo hi : Option XV)
 | faddr (o : Nat) (x : XV)
 | fld1 (o : Nat) (x : XV)
 | fldN (n o : Nat) (x : XV)
 | iaddr (esz : Nat) (x i : XV)
 | idxS (x i : XV)
 | lookup (q : SQ) (z : AV) (x key : XV) (ok : Bool)
 | mapup (q : SQ) (m key v : XV)
 | mkmap
 | mkmapH (x : XV)
 | mkslice (z : List AV) (l cp : XV)
 | extr (x : XV) (i : Nat)
 | mkfn (f : Nat) (cs : List XV)
 | lenS (x : XV)
 | lenL (x : XV)
 | lenM (x : XV)
 | append (esz : Nat) (s x : XV)
 | call (f : XV) (args : List XV)
 | mkif (t : Nat) (x : XV)
 | shl (x y : XV)
 | shr (x y : XV)
 | idx1 (n : Nat) (x i : XV)
 | iaddrA (n esz : Nat) (x i : XV)
 | slice3 (esz : Nat) (x : XV) (lo hi mx : Option XV)
 | copy (esz : Nat) (d s : XV)
 | range (x : XV)
 | next (x : XV)
 | entry (x : XV)
 | bad
def SO.den : SO → XO
 | .mv x => oMv x
 | .pick b x y => oPick b x y
 | .box x => oBox x
 | .build z ps => oBuild z ps
 | .bslice n z ps => oBslice n z ps
 | .load1 x => oLoad1 x
 | .loadN n x => oLoadN n x
 | .store n a x => oStore n a x
 | .nilc x => oNilc x
 | .ints f x y => Ev.ints f.den x y
 | .eql q nn x y => oEql q.den nn x y
 | .cat x y => oCat x y
 | .scmp f x y => oScmp f.den x y
 | .nilP n x => oNilP n x
 | .nilS n x => oNilS n x
 | .nilM n x => oNilM n x
 | .nilF n x => oNilF n x
 | .not x => oNot x
 | .neg x => oNeg x
 | .toInt p x => oToInt p x
 | .same x => oSame x
 | .bytesStr x => oBytesStr x
 | .slice e x lo hi => oSlice e x lo hi
 | .sliceS x lo hi => oSliceS x lo hi
 | .faddr o x => oFaddr o x
 | .fld1 o x => oFld1 o x
 | .fldN n o x => oFldN n o x
 | .iaddr e x i => oIaddr e x i
 | .idxS x i => oIdxS x i
 | .lookup q z x key ok => oLookup q.den z x key ok
 | .mapup q m key v => oMapup q.den m key v
 | .mkmap => oMkmap
 | .mkmapH x => oMkmapH x
 | .mkslice z l cp => oMkslice z l cp
 | .extr x i => oExtr x i
 | .mkfn f cs => oMkfn f cs
 | .lenS x => oLenS x
 | .lenL x => oLenL x
 | .lenM x => oLenM x
 | .append e s x => oAppend e s x
 | .call f args => oCall f args
 | .mkif t x => oMkif t x
 | .shl x y => oShl x y
 | .shr x y => oShr x y
 | .idx1 n x i => oIdx1 n x i
 | .iaddrA n e x i => oIaddrA n e x i
 | .slice3 e x lo hi mx => oSlice3 e x lo hi mx
 | .copy e d s => oCopy e d s
 | .range x => oRange x
 | .next x => oNext x
 | .entry x => oEntry x
 | .bad => oBad
structure SR where
 dst : Option Nat
 op : SO
 guard : Option (Nat × Bool)
 preds : Nat
 mem : Bool
 bar : Bool
 foot : Option XV
def SR.den (r : SR) : XR := ⟨r.dst, r.op.den, r.guard, r.preds, r.mem, r.bar, r.foot⟩
inductive SC where
 | skip
 | reg (ops : List SR)
 | dreg (ops : List SR)
 | seq (a b : SC)
 | cond (c : XV) (a b : SC)
 | block (id : Nat) (b : SC)
 | loop (b : SC)
 | rng (x t u id : Nat) (b : SC)
 | exit (id : Nat)
 | ret
 | bad
def SC.den : SC → XC
 | .skip => .skip
 | .reg ops => .reg (ops.map SR.den)
 | .dreg ops => .dreg (ops.map SR.den)
 | .seq a b => .seq a.den b.den
 | .cond c a b => .cond c a.den b.den
 | .block id b => .block id b.den
 | .loop b => .loop b.den
 | .rng x t u id b => .rng x t u id b.den
 | .exit id => .exit id
 | .ret => .ret
 | .bad => .bad
/-! what the slots hold, as far as it is known -/
abbrev Env' := List (Nat × AV)
def look : Env' → Nat → Option AV
 | [], _ => none
 | (k, v) :: l, t => bif Nat.beq k t then some v else look l t
def Has (sl : Tr AV) (env : Env') : Prop := ∀ t v, look env t = some v → slot sl t = v
theorem Has.put {sl : Tr AV} {env : Env'} (h : Has sl env) {d : Nat} (hd : d < 10000000) (v : AV) : Has (Tr.set depth sl d v) ((d, v) :: env) := fun t u q => by
 rw [slot_set hd]
 simp only [look] at q
 rw [beq_dec] at q
 by_cases e : d = t
 ·rw [if_pos e]; simp [e] at q; exact q
 ·rw [if_neg e]; simp [e] at q; exact h t u q
theorem Has.nil (sl : Tr AV) : Has sl [] := fun t v q => by cases q
def putE (d : Option Nat) (v : AV) (env : Env') : Env' := match d with
 | none => env
 | some d => (d, v) :: env
def okDst (nt : Nat) : Option Nat → Bool
 | none => true
 | some d => Nat.blt d nt
theorem putK_has {R : Type} {nt : Nat} (hnt : nt ≤ 1000000) {sl : Tr AV} {env : Env'} (h : Has sl env) {d : Option Nat} (hd : okDst nt d = true) (v : AV) :
  ∃ sl', Has sl' (putE d v env) ∧ ∀ k : Tr AV → Option R, putK nt sl d v k = k sl' := by
 cases d with
 | none => exact ⟨sl, h, fun k => rfl⟩
 | some d =>
  have hb : Nat.blt d nt = true := hd
  have hd' : d < nt := by simpa [Nat.blt_eq] using hb
  refine ⟨Tr.set depth sl d v, h.put (by omega) v, fun k => ?_⟩
  unfold putK
  simp only [hb, cond, Tr.setK_eq]
def evE (env : Env') : XV → Option AV
 | .tmp t => look env t
 | .const v => some v
 | .glob g => some (.ptr g 0)
theorem Has.ev {sl : Tr AV} {env : Env'} (h : Has sl env) {x : XV} {v : AV} (e : evE env x = some v) : evV sl x = v := by
 cases x with
 | tmp t => exact h t v e
 | const u => cases e; rfl
 | glob g => cases e; rfl
def evEs (env : Env') : List XV → Option (List AV)
 | [] => some []
 | x :: xs => match evE env x, evEs env xs with
  | some v, some vs => some (v :: vs)
  | _, _ => none
theorem Has.evs {sl : Tr AV} {env : Env'} (h : Has sl env) : ∀ {xs : List XV} {vs : List AV}, evEs env xs = some vs → xs.map (evV sl) = vs
 | [], vs, e => by cases e; rfl
 | x :: xs, vs, e => by
  simp only [evEs] at e
  split at e
  ·rename_i v us h1 h2
   cases e
   rw [List.map_cons, h.ev h1, h.evs h2]
  ·cases e
def wantsE (env : Env') : Option (Nat × Bool) → Option Bool
 | none => some true
 | some (t, w) => match look env t with
  | some (.bool b) => some (b == w)
  | some (.tup _) => some false
  | _ => none
theorem Has.wants {sl : Tr AV} {env : Env'} (h : Has sl env) {g : Option (Nat × Bool)} {b : Bool} (e : wantsE env g = some b) : Ev.wants sl g = b := by
 cases g with
 | none => cases e; rfl
 | some p =>
  obtain ⟨t, w⟩ := p
  simp only [wantsE] at e
  split at e
  ·rename_i b' hb
   cases e
   simp only [Ev.wants, h t _ hb]
  ·rename_i l hb
   cases e
   simp only [Ev.wants, h t _ hb]
  ·cases e
theorem Has.okW {sl : Tr AV} {env : Env'} (h : Has sl env) {g : Option (Nat × Bool)} {b : Bool} (e : wantsE env g = some b) : Ev.okW sl g = true := by
 cases g with
 | none => rfl
 | some p =>
  obtain ⟨t, w⟩ := p
  simp only [wantsE] at e
  split at e
  ·rename_i b' hb
   simp only [Ev.okW, h t _ hb, okG]
  ·rename_i l hb
   simp only [Ev.okW, h t _ hb, okG]
  ·cases e
def Sub' (env env' : Env') : Prop := ∀ t v, look env t = some v → look env' t = some v
theorem Has.less {sl : Tr AV} {env env' : Env'} (h : Has sl env') (hs : Sub' env env') : Has sl env := fun t v q => h t v (hs t v q)
theorem Sub'.nil (env : Env') : Sub' [] env := fun t v q => by cases q
theorem Sub'.cons {env env' : Env'} {t : Nat} {v : AV} (h : look env' t = some v) (hs : Sub' env env') : Sub' ((t, v) :: env) env' := fun t' v' q => by
 simp only [look] at q
 rw [beq_dec] at q
 by_cases e : t = t'
 ·subst e; simp at q; rw [← q]; exact h
 ·simp [e] at q; exact hs t' v' q
theorem Sn {env : Env'} : Sub' [] env := Sub'.nil _
theorem Sc {env env' : Env'} {t : Nat} {v : AV} (hs : Sub' env env') (h : look env' t = some v := by exact rfl) : Sub' ((t, v) :: env) env' := Sub'.cons h hs
section
variable (P : Program) (X : Exts) (M : Mf)
def Gives (c : C) (f : Cee) (args : List AV) (h : H) (v : AV) (h' : H) : Prop := ∃ N, ∀ n, N ≤ n → ev (cC P) (tblX P X) M n c (.call f args) h = .call v h'
def Gv (c : C) (f : Nat) (args : List AV) (h : H) (K : AV → H → Prop) : Prop := ∃ v h', Gives P X M c (.fn f) args h v h' ∧ K v h'
structure WO (c : C) (o : SO) (env : Env') (h : H) (K : AV → H → Prop) : Prop where
 run : ∀ sl, Has sl env → ∃ v h', (∃ N, ∀ n, N ≤ n → ∀ k : Kont, o.den c (callOf (ev (cC P) (tblX P X) M n)) sl h k = k v h') ∧ K v h'
structure WG (c : C) (nt : Nat) (ops : List SR) (env : Env') (h : H) (Q : Env' → H → Prop) : Prop where
 run : ∀ sl, Has sl env → ∃ sl' h' env', (∃ N, ∀ n, N ≤ n → evReg c (callOf (ev (cC P) (tblX P X) M n)) nt (ops.map SR.den) sl h = some (sl', h')) ∧ Has sl' env' ∧ Q env' h'
structure WD (c : C) (nt : Nat) (base : List (Nat × Nat)) (ops : List SR) (i : Nat) (rs : List (Nat × Nat × Nat)) (bs : List (Nat × Tr AB × Tr AB)) (fs : List (Nat × Nat)) (env : Env') (h : H) (Q : Env' → H → Prop) : Prop where
 run : ∀ sl, Has sl env → ∃ sl' h' env', (∃ N, ∀ n, N ≤ n → evDreg c (callOf (ev (cC P) (tblX P X) M n)) nt base (ops.map SR.den) i rs bs fs sl h = some (sl', h')) ∧ Has sl' env' ∧ Q env' h'
structure WC (c : C) (nt : Nat) (x : SC) (env : Env') (h : H) (Q : Ex → Env' → H → Prop) : Prop where
 run : ∀ sl, Has sl env → ∃ e sl' h' env', (∃ N, ∀ n, N ≤ n → ∀ rd ds, ev (cC P) (tblX P X) M n c (.code nt rd x.den sl ds) h = .code e sl' ds h') ∧ Has sl' env' ∧ Q e env' h'
end
section
variable {P : Program} {X : Exts} {M : Mf} {c : C} {nt : Nat} {env : Env'} {h : H}
theorem WC.mono {x : SC} {Q Q' : Ex → Env' → H → Prop} (w : WC P X M c nt x env h Q) (hq : ∀ e env h, Q e env h → Q' e env h) : WC P X M c nt x env h Q' := .mk fun sl hs => by
 obtain ⟨e, sl', h', env', h1, h2, h3⟩ := w.run sl hs
 exact ⟨e, sl', h', env', h1, h2, hq _ _ _ h3⟩
theorem WC.less {x : SC} {env1 : Env'} {Q : Ex → Env' → H → Prop} (w : WC P X M c nt x env1 h Q) (hs : Sub' env1 env) : WC P X M c nt x env h Q := .mk fun sl hh => w.run sl (hh.less hs)
theorem Gv.mono {f : Nat} {args : List AV} {K K' : AV → H → Prop} (w : Gv P X M c f args h K) (hk : ∀ v h', K v h' → K' v h') : Gv P X M c f args h K' := by
 obtain ⟨v, h', h1, h2⟩ := w
 exact ⟨v, h', h1, hk _ _ h2⟩
theorem WO.mono {o : SO} {K K' : AV → H → Prop} (w : WO P X M c o env h K) (hk : ∀ v h', K v h' → K' v h') : WO P X M c o env h K' := .mk fun sl hs => by
 obtain ⟨v, h', h1, h2⟩ := w.run sl hs
 exact ⟨v, h', h1, hk _ _ h2⟩
theorem Yg {Q : Ex → Env' → H → Prop} (q : Q .normal env h) : WC P X M c nt .skip env h Q := .mk fun sl hs =>
 ⟨.normal, sl, h, env, ⟨1, fun n hn rd ds => by cases n with | zero => omega | succ n => rfl⟩, hs, q⟩
theorem Yh {id : Nat} {Q : Ex → Env' → H → Prop} (q : Q (.exit id) env h) : WC P X M c nt (.exit id) env h Q := .mk fun sl hs =>
 ⟨.exit id, sl, h, env, ⟨1, fun n hn rd ds => by cases n with | zero => omega | succ n => rfl⟩, hs, q⟩
theorem Yi {Q : Ex → Env' → H → Prop} (q : Q .ret env h) : WC P X M c nt .ret env h Q := .mk fun sl hs =>
 ⟨.ret, sl, h, env, ⟨1, fun n hn rd ds => by cases n with | zero => omega | succ n => rfl⟩, hs, q⟩
structure thenQ (P : Program) (X : Exts) (M : Mf) (c : C) (nt : Nat) (b : SC) (Q : Ex → Env' → H → Prop) (e : Ex) (env : Env') (h : H) : Prop where
 get : match e with
  | .normal => WC P X M c nt b env h Q
  | e => Q e env h
theorem Yc {a b : SC} {Q : Ex → Env' → H → Prop} (w : WC P X M c nt a env h (thenQ P X M c nt b Q)) : WC P X M c nt (.seq a b) env h Q := .mk fun sl hs => by
 obtain ⟨e, sl1, h1, env1, ⟨N, hN⟩, hs1, q⟩ := w.run sl hs
 cases e with
 | normal =>
  obtain ⟨e2, sl2, h2, env2, ⟨N2, hN2⟩, hs2, q2⟩ := q.get.run sl1 hs1
  refine ⟨e2, sl2, h2, env2, ⟨N + N2 + 1, fun n hn rd ds => ?_⟩, hs2, q2⟩
  cases n with
  | zero => omega
  | succ n =>
   show seqRes _ c nt rd b.den (ev (cC P) (tblX P X) M n c (.code nt rd a.den sl ds) h) = _
   rw [hN n (by omega) rd ds]
   exact hN2 n (by omega) rd ds
 | exit id =>
  refine ⟨.exit id, sl1, h1, env1, ⟨N + 1, fun n hn rd ds => ?_⟩, hs1, q.get⟩
  cases n with
  | zero => omega
  | succ n =>
   show seqRes _ c nt rd b.den (ev (cC P) (tblX P X) M n c (.code nt rd a.den sl ds) h) = _
   rw [hN n (by omega) rd ds]; rfl
 | ret =>
  refine ⟨.ret, sl1, h1, env1, ⟨N + 1, fun n hn rd ds => ?_⟩, hs1, q.get⟩
  cases n with
  | zero => omega
  | succ n =>
   show seqRes _ c nt rd b.den (ev (cC P) (tblX P X) M n c (.code nt rd a.den sl ds) h) = _
   rw [hN n (by omega) rd ds]; rfl
theorem wc_cond {v : XV} {a b : SC} {t : Bool} {Q : Ex → Env' → H → Prop} (hv : evE env v = some (.bool t)) (wt : t = true → WC P X M c nt a env h Q) (wf : t = false → WC P X M c nt b env h Q) : WC P X M c nt (.cond v a b) env h Q := .mk fun sl hs => by
 have hv' := hs.ev hv
 cases t with
 | true =>
  obtain ⟨e, sl1, h1, env1, ⟨N, hN⟩, hs1, q⟩ := (wt rfl).run sl hs
  refine ⟨e, sl1, h1, env1, ⟨N + 1, fun n hn rd ds => ?_⟩, hs1, q⟩
  cases n with
  | zero => omega
  | succ n =>
   show condRes _ c nt rd a.den b.den sl ds h (evV sl v) = _
   rw [hv']
   exact hN n (by omega) rd ds
 | false =>
  obtain ⟨e, sl1, h1, env1, ⟨N, hN⟩, hs1, q⟩ := (wf rfl).run sl hs
  refine ⟨e, sl1, h1, env1, ⟨N + 1, fun n hn rd ds => ?_⟩, hs1, q⟩
  cases n with
  | zero => omega
  | succ n =>
   show condRes _ c nt rd a.den b.den sl ds h (evV sl v) = _
   rw [hv']
   exact hN n (by omega) rd ds
structure outOf (id : Nat) (Q : Ex → Env' → H → Prop) (e : Ex) (env : Env') (h : H) : Prop where
 get : match e with
  | .exit id' => bif Nat.beq id' id then Q .normal env h else Q (.exit id') env h
  | e => Q e env h
theorem Yf {id : Nat} {b : SC} {Q : Ex → Env' → H → Prop} (w : WC P X M c nt b env h (outOf id Q)) : WC P X M c nt (.block id b) env h Q := .mk fun sl hs => by
 obtain ⟨e, sl1, h1, env1, ⟨N, hN⟩, hs1, q⟩ := w.run sl hs
 have go : ∀ e', blockRes id (.code e sl1 [] h1) = .code e' sl1 [] h1 → (∀ ds, blockRes id (.code e sl1 ds h1) = .code e' sl1 ds h1) → Q e' env1 h1 → ∃ e sl' h' env', (∃ N, ∀ n, N ≤ n → ∀ rd ds, ev (cC P) (tblX P X) M n c (.code nt rd (SC.den (.block id b)) sl ds) h = .code e sl' ds h') ∧ Has sl' env' ∧ Q e env' h' := fun e' _ he q' => by
  refine ⟨e', sl1, h1, env1, ⟨N + 1, fun n hn rd ds => ?_⟩, hs1, q'⟩
  cases n with
  | zero => omega
  | succ n =>
   show blockRes id (ev (cC P) (tblX P X) M n c (.code nt rd b.den sl ds) h) = _
   rw [hN n (by omega) rd ds]
   exact he ds
 cases e with
 | normal => exact go .normal rfl (fun _ => rfl) q.get
 | ret => exact go .ret rfl (fun _ => rfl) q.get
 | exit id' =>
  have q := q.get
  simp only at q
  cases hb : Nat.beq id' id with
  | true =>
   rw [hb] at q
   exact go .normal (by simp only [blockRes, hb, cond]) (fun ds => by simp only [blockRes, hb, cond]) q
  | false =>
   rw [hb] at q
   exact go (.exit id') (by simp only [blockRes, hb, cond]) (fun ds => by simp only [blockRes, hb, cond]) q
def roundQ (I : Nat → Env' → H → Prop) (k : Nat) (Q : Ex → Env' → H → Prop) : Ex → Env' → H → Prop := fun e env h => match e with
 | .normal => ∃ k', k' < k ∧ I k' env h
 | e => Q e env h
theorem wc_loop {b : SC} {Q : Ex → Env' → H → Prop} (I : Nat → Env' → H → Prop) (step : ∀ k env h, I k env h → WC P X M c nt b env h (roundQ I k Q)) : ∀ (k : Nat) {env : Env'} {h : H}, I k env h → WC P X M c nt (.loop b) env h Q := by
 intro k
 induction k using Nat.strongRecOn with
 | ind k ih =>
  intro env h hI
  refine .mk fun sl hs => ?_
  obtain ⟨e, sl1, h1, env1, ⟨N, hN⟩, hs1, q⟩ := (step k env h hI).run sl hs
  cases e with
  | normal =>
   obtain ⟨k', hk, hI'⟩ := q
   obtain ⟨e2, sl2, h2, env2, ⟨N2, hN2⟩, hs2, q2⟩ := (ih k' hk hI').run sl1 hs1
   refine ⟨e2, sl2, h2, env2, ⟨N + N2 + 1, fun n hn rd ds => ?_⟩, hs2, q2⟩
   cases n with
   | zero => omega
   | succ n =>
    show seqRes _ c nt rd (.loop b.den) (ev (cC P) (tblX P X) M n c (.code nt rd b.den sl ds) h) = _
    rw [hN n (by omega) rd ds]
    exact hN2 n (by omega) rd ds
  | exit id =>
   refine ⟨.exit id, sl1, h1, env1, ⟨N + 1, fun n hn rd ds => ?_⟩, hs1, q⟩
   cases n with
   | zero => omega
   | succ n =>
    show seqRes _ c nt rd (.loop b.den) (ev (cC P) (tblX P X) M n c (.code nt rd b.den sl ds) h) = _
    rw [hN n (by omega) rd ds]; rfl
  | ret =>
   refine ⟨.ret, sl1, h1, env1, ⟨N + 1, fun n hn rd ds => ?_⟩, hs1, q⟩
   cases n with
   | zero => omega
   | succ n =>
    show seqRes _ c nt rd (.loop b.den) (ev (cC P) (tblX P X) M n c (.code nt rd b.den sl ds) h) = _
    rw [hN n (by omega) rd ds]; rfl
theorem Yb {b : SC} {Q : Ex → Env' → H → Prop} (w : WC P X M c nt b env h Q) : thenQ P X M c nt b Q .normal env h := ⟨w⟩
theorem Yk {b : SC} {id : Nat} {Q : Ex → Env' → H → Prop} (w : Q (.exit id) env h) : thenQ P X M c nt b Q (.exit id) env h := ⟨w⟩
theorem Yj {b : SC} {Q : Ex → Env' → H → Prop} (w : Q .ret env h) : thenQ P X M c nt b Q .ret env h := ⟨w⟩
theorem Yl {id : Nat} {Q : Ex → Env' → H → Prop} (w : Q .normal env h) : outOf id Q .normal env h := ⟨w⟩
theorem Ym {id : Nat} {Q : Ex → Env' → H → Prop} (w : Q .ret env h) : outOf id Q .ret env h := ⟨w⟩
theorem out_here {id id' : Nat} {Q : Ex → Env' → H → Prop} (e : Nat.beq id' id = true) (w : Q .normal env h) : outOf id Q (.exit id') env h := ⟨by simp only [e]; exact w⟩
theorem out_on {id id' : Nat} {Q : Ex → Env' → H → Prop} (e : Nat.beq id' id = false) (w : Q (.exit id') env h) : outOf id Q (.exit id') env h := ⟨by simp only [e]; exact w⟩
/-! regions -/
theorem Yd {ops : List SR} {Q : Ex → Env' → H → Prop} (w : WG P X M c nt ops env h (Q .normal)) : WC P X M c nt (.reg ops) env h Q := .mk fun sl hs => by
 obtain ⟨sl1, h1, env1, ⟨N, hN⟩, hs1, q⟩ := w.run sl hs
 refine ⟨.normal, sl1, h1, env1, ⟨N + 1, fun n hn rd ds => ?_⟩, hs1, q⟩
 cases n with
 | zero => omega
 | succ n =>
  show outRes ds (evReg c (callOf (ev (cC P) (tblX P X) M n)) nt (ops.map SR.den) sl h) = _
  rw [hN n (by omega)]; rfl
theorem Ya {Q : Env' → H → Prop} (q : Q env h) : WG P X M c nt [] env h Q := .mk fun sl hs => ⟨sl, h, env, ⟨0, fun n _ => rfl⟩, hs, q⟩
theorem wg_op {o : SR} {ops : List SR} {Q : Env' → H → Prop} (hnt : nt ≤ 1000000) (hg : wantsE env o.guard = some true) (hd : okDst nt o.dst = true) (w : WO P X M c o.op env h (fun v h' => WG P X M c nt ops (putE o.dst v env) h' Q)) : WG P X M c nt (o :: ops) env h Q := .mk fun sl hs => by
 obtain ⟨v, h1, ⟨N, hN⟩, q⟩ := w.run sl hs
 obtain ⟨sl1, hs1, hp⟩ := putK_has (R := Tr AV × H) hnt hs hd v
 obtain ⟨sl2, h2, env2, ⟨N2, hN2⟩, hs2, q2⟩ := q.run sl1 hs1
 refine ⟨sl2, h2, env2, ⟨N + N2, fun n hn => ?_⟩, hs2, q2⟩
 have hw := hs.wants hg
 have hk := hs.okW hg
 show evReg c _ nt (o.den :: ops.map SR.den) sl h = _
 unfold evReg
 simp only [SR.den, hw, cond]
 rw [hN n (by omega), hp]
 exact hN2 n (by omega)
theorem wg_off {o : SR} {ops : List SR} {Q : Env' → H → Prop} (hnt : nt ≤ 1000000) (hg : wantsE env o.guard = some false) (hd : okDst nt o.dst = true) (w : WG P X M c nt ops (putE o.dst (.tup []) env) h Q) : WG P X M c nt (o :: ops) env h Q := .mk fun sl hs => by
 obtain ⟨sl1, hs1, hp⟩ := putK_has (R := Tr AV × H) hnt hs hd (.tup [])
 obtain ⟨sl2, h2, env2, ⟨N2, hN2⟩, hs2, q2⟩ := w.run sl1 hs1
 refine ⟨sl2, h2, env2, ⟨N2, fun n hn => ?_⟩, hs2, q2⟩
 have hw := hs.wants hg
 have hk := hs.okW hg
 show evReg c _ nt (o.den :: ops.map SR.den) sl h = _
 unfold evReg
 simp only [SR.den, hw, hk, cond]
 rw [hp]
 exact hN2 n (by omega)
/-! regions that draw -/
theorem Ye {ops : List SR} {Q : Ex → Env' → H → Prop} (w : WD P X M c nt (cutBase h.n c.vis) ops 0 [] [] [] env h (Q .normal)) : WC P X M c nt (.dreg ops) env h Q := .mk fun sl hs => by
 obtain ⟨sl1, h1, env1, ⟨N, hN⟩, hs1, q⟩ := w.run sl hs
 refine ⟨.normal, sl1, h1, env1, ⟨N + 1, fun n hn rd ds => ?_⟩, hs1, q⟩
 cases n with
 | zero => omega
 | succ n =>
  show outRes ds (evDreg c (callOf (ev (cC P) (tblX P X) M n)) nt (cutBase h.n c.vis) (ops.map SR.den) 0 [] [] [] sl h) = _
  rw [hN n (by omega)]; rfl
variable {base : List (Nat × Nat)} {i : Nat} {rs : List (Nat × Nat × Nat)} {bs : List (Nat × Tr AB × Tr AB)} {fs : List (Nat × Nat)}
theorem Yn {Q : Env' → H → Prop} (q : Q env h) : WD P X M c nt base [] i rs bs fs env h Q := .mk fun sl hs => ⟨sl, h, env, ⟨0, fun n _ => rfl⟩, hs, q⟩
theorem wd_off {o : SR} {ops : List SR} {Q : Env' → H → Prop} (hnt : nt ≤ 1000000) (hg : wantsE env o.guard = some false) (hd : okDst nt o.dst = true) (w : WD P X M c nt base ops (i + 1) rs bs fs (putE o.dst (.tup []) env) h Q) : WD P X M c nt base (o :: ops) i rs bs fs env h Q := .mk fun sl hs => by
 obtain ⟨sl1, hs1, hp⟩ := putK_has (R := Tr AV × H) hnt hs hd (.tup [])
 obtain ⟨sl2, h2, env2, ⟨N2, hN2⟩, hs2, q2⟩ := w.run sl1 hs1
 refine ⟨sl2, h2, env2, ⟨N2, fun n hn => ?_⟩, hs2, q2⟩
 have hw := hs.wants hg
 have hk := hs.okW hg
 show evDreg c _ nt base (o.den :: ops.map SR.den) i rs bs fs sl h = _
 unfold evDreg
 simp only [SR.den, hw, hk, cond]
 rw [hp]
 exact hN2 n (by omega)
theorem wd_pure {o : SR} {ops : List SR} {Q : Env' → H → Prop} (hnt : nt ≤ 1000000) (hg : wantsE env o.guard = some true) (hd : okDst nt o.dst = true) (hf : o.foot = none) (hm : o.mem = false)
  (w : WO P X M ⟨h.n, [(h.n, big)]⟩ o.op env h (fun v h' => WD P X M c nt base ops (i + 1) (addR i h.n h'.n rs) bs fs (putE o.dst v env) h' Q)) : WD P X M c nt base (o :: ops) i rs bs fs env h Q := .mk fun sl hs => by
 obtain ⟨v, h1, ⟨N, hN⟩, q⟩ := w.run sl hs
 obtain ⟨sl1, hs1, hp⟩ := putK_has (R := Tr AV × H) hnt hs hd v
 obtain ⟨sl2, h2, env2, ⟨N2, hN2⟩, hs2, q2⟩ := q.run sl1 hs1
 refine ⟨sl2, h2, env2, ⟨N + N2, fun n hn => ?_⟩, hs2, q2⟩
 have hw := hs.wants hg
 have hk := hs.okW hg
 show evDreg c _ nt base (o.den :: ops.map SR.den) i rs bs fs sl h = _
 unfold evDreg
 simp only [SR.den, hw, cond, hf, hm]
 rw [hN n (by omega), hp]
 exact hN2 n (by omega)
theorem wd_foot {o : SR} {ops : List SR} {x : XV} {a : AV} {A : Nat} {Q : Env' → H → Prop} (hnt : nt ≤ 1000000) (hg : wantsE env o.guard = some true) (hd : okDst nt o.dst = true) (hf : o.foot = some x) (ha : evE env x = some a) (hA : footId a = some A)
  (hsee : seen ((h.n, big) :: visOf o.preds base rs) A = true) (hun : unchB o.preds A bs = true)
  (w : WO P X M ⟨h.n, [(h.n, big), (A, Nat.succ A)]⟩ o.op env h (fun v h' => WD P X M c nt base ops (i + 1) (addR i h.n h'.n rs) bs ((i, A) :: fs) (putE o.dst v env) h' Q)) : WD P X M c nt base (o :: ops) i rs bs fs env h Q := .mk fun sl hs => by
 obtain ⟨v, h1, ⟨N, hN⟩, q⟩ := w.run sl hs
 obtain ⟨sl1, hs1, hp⟩ := putK_has (R := Tr AV × H) hnt hs hd v
 obtain ⟨sl2, h2, env2, ⟨N2, hN2⟩, hs2, q2⟩ := q.run sl1 hs1
 refine ⟨sl2, h2, env2, ⟨N + N2, fun n hn => ?_⟩, hs2, q2⟩
 have hw := hs.wants hg
 have he := hs.ev ha
 show evDreg c _ nt base (o.den :: ops.map SR.den) i rs bs fs sl h = _
 unfold evDreg
 simp only [SR.den, hw, cond, hf, he, hA, hsee, hun, Bool.and_self]
 rw [hN n (by omega), hp]
 exact hN2 n (by omega)
theorem wd_bar {o : SR} {ops : List SR} {Q : Env' → H → Prop} (hnt : nt ≤ 1000000) (hg : wantsE env o.guard = some true) (hd : okDst nt o.dst = true) (hf : o.foot = none) (hm : o.mem = true) (hb : o.bar = true)
  (w : WO P X M ⟨c.floor, (h.n, big) :: visOf o.preds base rs⟩ o.op env h (fun v h' => unchF o.preds h.t h'.t fs = true ∧ WD P X M c nt base ops (i + 1) (addR i h.n h'.n rs) ((i, h.t, h'.t) :: bs) fs (putE o.dst v env) h' Q)) : WD P X M c nt base (o :: ops) i rs bs fs env h Q := .mk fun sl hs => by
 obtain ⟨v, h1, ⟨N, hN⟩, hun, q⟩ := w.run sl hs
 obtain ⟨sl1, hs1, hp⟩ := putK_has (R := Tr AV × H) hnt hs hd v
 obtain ⟨sl2, h2, env2, ⟨N2, hN2⟩, hs2, q2⟩ := q.run sl1 hs1
 refine ⟨sl2, h2, env2, ⟨N + N2, fun n hn => ?_⟩, hs2, q2⟩
 have hw := hs.wants hg
 have hk := hs.okW hg
 show evDreg c _ nt base (o.den :: ops.map SR.den) i rs bs fs sl h = _
 unfold evDreg
 simp only [SR.den, hw, cond, hf, hm, hb]
 rw [hN n (by omega), hun, hp]
 exact hN2 n (by omega)
/-! calls -/
def argE : List AV → Nat → Env' → Env'
 | [], _, env => env
 | v :: vs, i, env => argE vs (i + 1) ((i, v) :: env)
theorem has_args : ∀ (vs : List AV) (i : Nat) (sl : Tr AV) (env : Env'), Has sl env → i + vs.length ≤ 1000000 → Has (setAll vs i sl) (argE vs i env)
 | [], i, sl, env, hs, _ => hs
 | v :: vs, i, sl, env, hs, hl => by
  simp only [List.length_cons] at hl
  exact has_args vs (i + 1) _ _ (hs.put (by omega) v) (by omega)
def resE (c : C) (h : H) (env : Env') : List (Nat × Option (Option Nat)) → Option (List AV)
 | [] => some []
 | r :: rs => match look env r.1, resE c h env rs with
  | some v, some vs => match r.2 with
   | none => some (v :: vs)
   | some n => match v with
    | .ptr id off => match getB c h id with
     | some (.cells cs) => match n with
      | none => match nth off cs with
       | some u => some (u :: vs)
       | none => none
      | some n => match dropK off cs fun cs => takeK n cs fun cs => some cs with
       | some us => some (.agg us :: vs)
       | none => none
     | _ => none
    | _ => none
  | _, _ => none
theorem resE_ok {sl : Tr AV} (hs : Has sl env) : ∀ {rs : List (Nat × Option (Option Nat))} {vs : List AV}, resE c h env rs = some vs → ∀ k, resOf c h sl rs k = k vs
 | [], vs, e, k => by cases e; rfl
 | r :: rs, vs, e, k => by
  simp only [resE] at e
  split at e
  ·rename_i v us h1 h2
   have hv := hs _ _ h1
   unfold resOf
   split at e
   ·rename_i hr
    cases e
    rw [hr]
    simp only
    rw [resE_ok hs h2, hv]
   ·rename_i n hr
    rw [hr]
    simp only
    rw [hv]
    split at e
    ·rename_i id off
     simp only
     split at e
     ·rename_i cs hg
      rw [hg]
      simp only
      split at e
      ·split at e
       ·rename_i u hu
        cases e
        simp only [hu]
        rw [resE_ok hs h2]
       ·cases e
      ·split at e
       ·rename_i us' hu
        cases e
        simp only [hu]
        rw [resE_ok hs h2]
       ·cases e
     ·cases e
    ·cases e
  ·cases e
def retV : List AV → AV
 | [v] => v
 | vs => .tup vs
theorem retRes_eq (h : H) : ∀ (vs : List AV), retRes h vs = .call (retV vs) h
 | [] => rfl
 | [v] => rfl
 | v :: u :: vs => rfl
theorem gv_fn {f : Nat} {args : List AV} {res : List (Nat × Option (Option Nat))} {s : SC} {K : AV → H → Prop} (ht : tblX P X f = some (.fn ⟨nt, res, s.den⟩)) (hM : M f args c h = none) (hl : args.length ≤ nt) (hnt : nt ≤ 1000000)
  (w : WC P X M c nt s (argE args 0 []) h (fun e env h' => (e = .normal ∨ e = .ret) ∧ ∃ vs, resE c h' env res = some vs ∧ K (retV vs) h')) : Gv P X M c f args h K := by
 obtain ⟨e, sl1, h1, env1, ⟨N, hN⟩, hs1, he, vs, hr, hk⟩ := w.run (setAll args 0 .nil) (has_args args 0 .nil [] (Has.nil _) (by omega))
 refine ⟨retV vs, h1, ⟨N + 2, fun n hn => ?_⟩, hk⟩
 cases n with
 | zero => omega
 | succ n =>
  show (match M f args c h with | some r => Res.call r.1 r.2 | none => stepF (ev (cC P) (tblX P X) M n) c args h (tblX P X f)) = _
  rw [hM, ht]
  show (bif Nat.ble (lenN args) nt then slotsOf args 0 .nil fun sl => endRes c res (ev (cC P) (tblX P X) M n c (.code nt false s.den sl []) h) else .bad) = _
  rw [lenN_eq, Nat.ble_eq_true_of_le hl]
  simp only [cond, slotsOf_eq]
  rw [hN n (by omega)]
  rcases he with rfl | rfl
  ·simp only [endRes, shutD]
   rw [resE_ok hs1 hr, retRes_eq]
  ·simp only [endRes, shutD]
   rw [resE_ok hs1 hr, retRes_eq]
end
/-! heaps -/
def H.new (h : H) (b : AB) : H := ⟨Tr.set depth h.t h.n b, h.n + 1⟩
def H.put (h : H) (id : Nat) (b : AB) : H := ⟨Tr.set depth h.t id b, h.n⟩
def H.get (h : H) (id : Nat) : Option AB := Tr.get h.t id
theorem new_n (h : H) (b : AB) : (h.new b).n = h.n + 1 := rfl
theorem put_n (h : H) (id : Nat) (b : AB) : (h.put id b).n = h.n := rfl
theorem get_new {h : H} (hn : h.n < 10000000) (b : AB) (id : Nat) : (h.new b).get id = if h.n = id then some b else h.get id := get_set40 _ _ _ _ hn
theorem get_new_same {h : H} (hn : h.n < 10000000) (b : AB) : (h.new b).get h.n = some b := by rw [get_new hn, if_pos rfl]
theorem get_new_old {h : H} (hn : h.n < 10000000) (b : AB) {id : Nat} (hid : id < h.n) : (h.new b).get id = h.get id := by rw [get_new hn, if_neg (by omega)]
theorem get_put {h : H} {id : Nat} (hn : id < 10000000) (b : AB) (j : Nat) : (h.put id b).get j = if id = j then some b else h.get j := get_set40 _ _ _ _ hn
theorem get_put_same {h : H} {id : Nat} (hn : id < 10000000) (b : AB) : (h.put id b).get id = some b := by rw [get_put hn, if_pos rfl]
theorem get_put_other {h : H} {id : Nat} (hn : id < 10000000) (b : AB) {j : Nat} (hj : id ≠ j) : (h.put id b).get j = h.get j := by rw [get_put hn, if_neg hj]
structure Grew (h h' : H) : Prop where
 le : h.n ≤ h'.n
 get : ∀ id, id < h.n → h'.get id = h.get id
theorem Grew.refl (h : H) : Grew h h := ⟨Nat.le_refl _, fun _ _ => rfl⟩
theorem Grew.trans {h h1 h2 : H} (a : Grew h h1) (b : Grew h1 h2) : Grew h h2 := ⟨Nat.le_trans a.le b.le, fun id hid => (b.get id (Nat.lt_of_lt_of_le hid a.le)).trans (a.get id hid)⟩
theorem Grew.new {h : H} (hn : h.n < 10000000) (b : AB) : Grew h (h.new b) := ⟨by simp [H.new], fun id hid => get_new_old hn b hid⟩
theorem Grew.newer {h h1 : H} (a : Grew h h1) (hn : h1.n < 10000000) (b : AB) : Grew h (h1.new b) := a.trans (Grew.new hn b)
/-! lists -/
theorem takeK_eq {α R : Type} : ∀ (n : Nat) (l : List α) (k : List α → Option R), n ≤ l.length → takeK n l k = k (l.take n)
 | 0, l, k, _ => by simp [takeK]
 | n + 1, [], k, h => by simp at h
 | n + 1, x :: l, k, h => by
  simp only [takeK, List.take_succ_cons]
  exact takeK_eq n l _ (by simpa using h)
theorem dropK_eq {α R : Type} : ∀ (n : Nat) (l : List α) (k : List α → Option R), n ≤ l.length → dropK n l k = k (l.drop n)
 | 0, l, k, _ => by simp [dropK]
 | n + 1, [], k, h => by simp at h
 | n + 1, x :: l, k, h => by
  simp only [dropK, List.drop_succ_cons]
  exact dropK_eq n l _ (by simpa using h)
theorem overK_eq {R : Type} : ∀ (news l : List AV) (k : List AV → Option R), news.length ≤ l.length → overK news l k = k (news ++ l.drop news.length)
 | [], l, k, _ => by simp [overK]
 | y :: news, [], k, h => by simp at h
 | y :: news, x :: l, k, h => by
  simp only [overK, List.length_cons, List.drop_succ_cons, List.cons_append]
  exact overK_eq news l _ (by simpa using h)
def splice (off : Nat) (news l : List AV) : List AV := l.take off ++ news ++ l.drop (off + news.length)
theorem spliceK_eq {R : Type} : ∀ (off : Nat) (news l : List AV) (k : List AV → Option R), off + news.length ≤ l.length → spliceK off news l k = k (splice off news l)
 | 0, news, l, k, h => by
  simp only [spliceK, splice, List.take_zero, List.nil_append, Nat.zero_add]
  exact overK_eq news l k (by omega)
 | off + 1, news, [], k, h => by simp at h
 | off + 1, news, x :: l, k, h => by
  have hl : off + news.length ≤ l.length := by simp only [List.length_cons] at h; omega
  have e : splice (off + 1) news (x :: l) = x :: splice off news l := by simp [splice, Nat.add_right_comm]
  simp only [spliceK, e]
  exact spliceK_eq off news l (fun ys => k (x :: ys)) hl
def partsE (env : Env') : List (Nat × Nat × XV) → List AV → Option (List AV)
 | [], l => some l
 | p :: ps, l => match evE env p.2.2 with
  | some v => bif Nat.beq (lenN v.cells) p.2.1 && okT v then match spliceK p.1 v.cells l some with
    | some l => partsE env ps l
    | none => none
   else none
  | none => none
theorem spliceK_bind {R : Type} : ∀ (off : Nat) (news l : List AV) (k : List AV → Option R), spliceK off news l k = (spliceK off news l some).bind k := by
 intro off news l k
 by_cases h : off + news.length ≤ l.length
 ·rw [spliceK_eq _ _ _ _ h, spliceK_eq _ _ _ _ h]; rfl
 ·cases h1 : spliceK off news l k with
  | some r => exact absurd (spliceK_some h1).1 h
  | none =>
   cases h2 : spliceK off news l some with
   | some r => exact absurd (spliceK_some h2).1 h
   | none => rfl
theorem parts_ok {R : Type} {sl : Tr AV} {env : Env'} (hs : Has sl env) : ∀ (ps : List (Nat × Nat × XV)) (l l' : List AV), partsE env ps l = some l' → ∀ k : List AV → Option R, evParts sl ps l k = k l'
 | [], l, l', e, k => by cases e; rfl
 | p :: ps, l, l', e, k => by
  simp only [partsE] at e
  split at e
  ·rename_i v hv
   have hv' := hs.ev hv
   cases hb : (Nat.beq (lenN v.cells) p.2.1 && okT v) with
   | false => rw [hb] at e; cases e
   | true =>
    rw [hb] at e
    simp only [cond] at e
    split at e
    ·rename_i l1 hl1
     simp only [evParts, hv', hb, cond]
     rw [spliceK_bind, hl1]
     exact parts_ok hs ps l1 l' e k
    ·cases e
  ·cases e
/-! numbers -/
theorem inR64 {n : Int} (h1 : -9223372036854775808 ≤ n) (h2 : n ≤ 9223372036854775807) : inR .i64 n = true := by
 cases n with
 | ofNat m =>
  have h3 : (m : Int) ≤ 9223372036854775807 := h2
  simp only [inR]
  exact Nat.ble_eq_true_of_le (by omega)
 | negSucc m => simp only [inR]; exact Nat.ble_eq_true_of_le (by omega)
theorem blt_false {a b : Nat} (h : b ≤ a) : Nat.blt a b = false := by
 cases hb : Nat.blt a b with
 | false => rfl
 | true =>
  have : a < b := by simpa [Nat.blt_eq] using hb
  omega
theorem kindEq_refl (k : IntKind) : kindEq k k = true := by simp [kindEq]
section
variable {P : Program} {X : Exts} {M : Mf} {c : C} {env : Env'} {h : H} {K : AV → H → Prop}
theorem wo_of {o : SO} {v : AV} {h' : H} (e : ∀ sl, Has sl env → ∀ call k, o.den c call sl h k = k v h') (hk : K v h') : WO P X M c o env h K := .mk fun sl hs => ⟨v, h', ⟨0, fun n _ k => e sl hs _ k⟩, hk⟩
theorem wo_mv {x : XV} {v : AV} (hx : evE env x = some v) (hk : K v h) : WO P X M c (.mv x) env h K := wo_of (fun sl hs call k => by simp only [SO.den, oMv, hs.ev hx]) hk
theorem wo_pick_t {b x y : XV} {v : AV} (hb : evE env b = some (.bool true)) (hx : evE env x = some v) (hk : K v h) : WO P X M c (.pick b x y) env h K := wo_of (fun sl hs call k => by simp only [SO.den, oPick, hs.ev hb, hs.ev hx]) hk
theorem wo_pick_f {b x y : XV} {v : AV} (hb : evE env b = some (.bool false)) (hy : evE env y = some v) (hk : K v h) : WO P X M c (.pick b x y) env h K := wo_of (fun sl hs call k => by simp only [SO.den, oPick, hs.ev hb, hs.ev hy]) hk
theorem newB_eq {R : Type} {b : AB} (hn : h.n < 10000000) (k : Nat → H → Option R) : newB h b k = k h.n (h.new b) := by
 have hb : Nat.blt h.n 10000000 = true := by simpa [Nat.blt_eq] using hn
 unfold newB
 simp only [hb, cond, Tr.setK_eq, forceNat_eq]; rfl
theorem setB_eq {R : Type} {id : Nat} {b : AB} (hf : c.floor ≤ id) (hs : seen c.vis id = true) (k : H → Option R) : setB c h id b k = k (h.put id b) := by
 unfold setB
 simp only [Nat.ble_eq_true_of_le hf, hs, Bool.and_self, cond, Tr.setK_eq]; rfl
theorem getB_eq {id : Nat} (hs : seen c.vis id = true) : getB c h id = h.get id := by unfold getB; rw [hs]; rfl
theorem okT_one {v : AV} (h : one v = true) : okT v = true := by
 cases v <;> first | rfl | (have h' : false = true := h; cases h')
theorem wo_box {x : XV} {v : AV} (hx : evE env x = some v) (hn : h.n < 10000000) (hk : K (.ptr h.n 0) (h.new (.cells v.cells))) (hok : okT v = true := by first | rfl | (apply okT_one; assumption)) : WO P X M c (.box x) env h K :=
 wo_of (fun sl hs call k => by simp only [SO.den, oBox, hs.ev hx, hok, cond_true, newB_eq hn]) hk
theorem wo_build {z : List AV} {ps : List (Nat × Nat × XV)} {l : List AV} (hp : partsE env ps z = some l) (hk : K (.agg l) h) : WO P X M c (.build z ps) env h K :=
 wo_of (fun sl hs call k => by simp only [SO.den, oBuild]; rw [parts_ok hs ps z l hp]) hk
theorem wo_bslice {n : Nat} {z : List AV} {ps : List (Nat × Nat × XV)} {l : List AV} (hp : partsE env ps (List.replicate n z).flatten = some l) (hn : h.n < 10000000) (hk : K (.sl h.n 0 n z.length (some n)) (h.new (.cells l))) : WO P X M c (.bslice n z ps) env h K :=
 wo_of (fun sl hs call k => by simp only [SO.den, oBslice, repK_eq]; rw [parts_ok hs ps _ l hp, newB_eq hn, lenN_eq]) hk
theorem wo_load1 {x : XV} {id off : Nat} {vs : List AV} {v : AV} (hx : evE env x = some (.ptr id off)) (hs : seen c.vis id = true) (hg : h.get id = some (.cells vs)) (hv : vs[off]? = some v) (hk : K v h) : WO P X M c (.load1 x) env h K :=
 wo_of (fun sl hh call k => by simp only [SO.den, oLoad1, hh.ev hx, cellsAt, getB_eq hs, hg, nth_eq, hv]) hk
theorem wo_loadN {n : Nat} {x : XV} {id off : Nat} {vs us : List AV} (hx : evE env x = some (.ptr id off)) (hs : seen c.vis id = true) (hg : h.get id = some (.cells vs)) (hl : off + n ≤ vs.length) (hu : (vs.drop off).take n = us) (hk : K (.agg us) h) : WO P X M c (.loadN n x) env h K :=
 wo_of (fun sl hh call k => by
  simp only [SO.den, oLoadN, hh.ev hx, cellsAt, getB_eq hs, hg]
  rw [dropK_eq _ _ _ (by omega), takeK_eq _ _ _ (by simp; omega), hu]) hk
theorem wo_store {n : Nat} {a x : XV} {id off : Nat} {vs : List AV} {v : AV} (ha : evE env a = some (.ptr id off)) (hx : evE env x = some v) (hf : c.floor ≤ id) (hs : seen c.vis id = true) (hg : h.get id = some (.cells vs)) (hn : v.cells.length = n) (ho : ones v.cells = true) (hl : off + n ≤ vs.length)
  (hk : K (.tup []) (h.put id (.cells (splice off v.cells vs)))) : WO P X M c (.store n a x) env h K :=
 wo_of (fun sl hh call k => by
  have hb : Nat.beq (lenN v.cells) n = true := by rw [lenN_eq, hn]; simp
  simp only [SO.den, oStore, hh.ev ha, hh.ev hx, cellsAt, getB_eq hs, hg, hb, ho, Bool.and_self, cond]
  rw [spliceK_eq _ _ _ _ (by omega), setB_eq hf hs]) hk
theorem wo_nilc {x : XV} {id off : Nat} (hx : evE env x = some (.ptr id off)) (hk : K (.ptr id off) h) : WO P X M c (.nilc x) env h K := wo_of (fun sl hs call k => by simp only [SO.den, oNilc, hs.ev hx]) hk
theorem wo_add {x y : XV} {a b : Int} (hx : evE env x = some (.int .i64 a)) (hy : evE env y = some (.int .i64 b)) (h1 : -9223372036854775808 ≤ a + b) (h2 : a + b ≤ 9223372036854775807) (hk : K (.int .i64 (a + b)) h) : WO P X M c (.ints .add x y) env h K :=
 wo_of (fun sl hs call k => by
  have hr : inR .i64 (Int.add a b) = true := inR64 h1 h2
  simp only [SO.den, SI.den, Ev.ints, hs.ev hx, hs.ev hy, kindEq_refl, cond, fAdd, intK, hr, forceInt_eq]; rfl) hk
theorem wo_sub {x y : XV} {a b : Int} (hx : evE env x = some (.int .i64 a)) (hy : evE env y = some (.int .i64 b)) (h1 : -9223372036854775808 ≤ a - b) (h2 : a - b ≤ 9223372036854775807) (hk : K (.int .i64 (a - b)) h) : WO P X M c (.ints .sub x y) env h K :=
 wo_of (fun sl hs call k => by
  have hr : inR .i64 (Int.sub a b) = true := inR64 h1 h2
  simp only [SO.den, SI.den, Ev.ints, hs.ev hx, hs.ev hy, kindEq_refl, cond, fSub, intK, hr, forceInt_eq]; rfl) hk
theorem wo_lss {x y : XV} {p : IntKind} {a b : Int} (hx : evE env x = some (.int p a)) (hy : evE env y = some (.int p b)) (ht : a < b → K (.bool true) h) (hf : ¬ a < b → K (.bool false) h) : WO P X M c (.ints .lss x y) env h K := by
 by_cases q : a < b
 ·exact wo_of (fun sl hs call k => by simp only [SO.den, SI.den, Ev.ints, hs.ev hx, hs.ev hy, kindEq_refl, cond, fLss, boolK, ltI_eq, decide_eq_true q, forceBool_eq]) (ht q)
 ·exact wo_of (fun sl hs call k => by simp only [SO.den, SI.den, Ev.ints, hs.ev hx, hs.ev hy, kindEq_refl, cond, fLss, boolK, ltI_eq, decide_eq_false q, forceBool_eq]) (hf q)
theorem wo_gtr {x y : XV} {p : IntKind} {a b : Int} (hx : evE env x = some (.int p a)) (hy : evE env y = some (.int p b)) (ht : b < a → K (.bool true) h) (hf : ¬ b < a → K (.bool false) h) : WO P X M c (.ints .gtr x y) env h K := by
 by_cases q : b < a
 ·exact wo_of (fun sl hs call k => by simp only [SO.den, SI.den, Ev.ints, hs.ev hx, hs.ev hy, kindEq_refl, cond, fGtr, boolK, ltI_eq, decide_eq_true q, forceBool_eq]) (ht q)
 ·exact wo_of (fun sl hs call k => by simp only [SO.den, SI.den, Ev.ints, hs.ev hx, hs.ev hy, kindEq_refl, cond, fGtr, boolK, ltI_eq, decide_eq_false q, forceBool_eq]) (hf q)
theorem wo_leq {x y : XV} {p : IntKind} {a b : Int} (hx : evE env x = some (.int p a)) (hy : evE env y = some (.int p b)) (ht : a ≤ b → K (.bool true) h) (hf : ¬ a ≤ b → K (.bool false) h) : WO P X M c (.ints .leq x y) env h K := by
 by_cases q : b < a
 ·exact wo_of (fun sl hs call k => by simp only [SO.den, SI.den, Ev.ints, hs.ev hx, hs.ev hy, kindEq_refl, cond, fLeq, boolK, ltI_eq, decide_eq_true q, Bool.not_true, forceBool_eq]) (hf (by omega))
 ·exact wo_of (fun sl hs call k => by simp only [SO.den, SI.den, Ev.ints, hs.ev hx, hs.ev hy, kindEq_refl, cond, fLeq, boolK, ltI_eq, decide_eq_false q, Bool.not_false, forceBool_eq]) (ht (by omega))
theorem wo_geq {x y : XV} {p : IntKind} {a b : Int} (hx : evE env x = some (.int p a)) (hy : evE env y = some (.int p b)) (ht : b ≤ a → K (.bool true) h) (hf : ¬ b ≤ a → K (.bool false) h) : WO P X M c (.ints .geq x y) env h K := by
 by_cases q : a < b
 ·exact wo_of (fun sl hs call k => by simp only [SO.den, SI.den, Ev.ints, hs.ev hx, hs.ev hy, kindEq_refl, cond, fGeq, boolK, ltI_eq, decide_eq_true q, Bool.not_true, forceBool_eq]) (hf (by omega))
 ·exact wo_of (fun sl hs call k => by simp only [SO.den, SI.den, Ev.ints, hs.ev hx, hs.ev hy, kindEq_refl, cond, fGeq, boolK, ltI_eq, decide_eq_false q, Bool.not_false, forceBool_eq]) (ht (by omega))
theorem wo_eql {q : SQ} {neg : Bool} {x y : XV} {u v : AV} {b : Bool} (hx : evE env x = some u) (hy : evE env y = some v) (hq : q.den u v = some b) (hk : K (.bool (bne b neg)) h) : WO P X M c (.eql q neg x y) env h K :=
 wo_of (fun sl hs call k => by simp only [SO.den, oEql, hs.ev hx, hs.ev hy, hq, boolK, forceBool_eq]) hk
theorem eqInt_dec (p : IntKind) (a b : Int) : eqInt (.int p a) (.int p b) = some (decide (a = b)) := by simp only [eqInt, kindEq_refl, cond, eqI_eq]
theorem wo_eqi {neg : Bool} {x y : XV} {p : IntKind} {a b : Int} (hx : evE env x = some (.int p a)) (hy : evE env y = some (.int p b)) (ht : a = b → K (.bool (bne true neg)) h) (hf : ¬ a = b → K (.bool (bne false neg)) h) : WO P X M c (.eql (.b .int) neg x y) env h K := by
 by_cases q : a = b
 ·exact wo_eql hx hy (by simp only [SQ.den, SB.den, eqInt_dec, decide_eq_true q]) (ht q)
 ·exact wo_eql hx hy (by simp only [SQ.den, SB.den, eqInt_dec, decide_eq_false q]) (hf q)
theorem wo_eqs {neg : Bool} {x y : XV} {a b : List Nat} (hx : evE env x = some (.str a)) (hy : evE env y = some (.str b)) (ht : a = b → K (.bool (bne true neg)) h) (hf : ¬ a = b → K (.bool (bne false neg)) h) : WO P X M c (.eql (.b .str) neg x y) env h K := by
 by_cases q : a = b
 ·exact wo_eql hx hy (by simp only [SQ.den, SB.den, eqStr, eqL_eq, decide_eq_true q]) (ht q)
 ·exact wo_eql hx hy (by simp only [SQ.den, SB.den, eqStr, eqL_eq, decide_eq_false q]) (hf q)
theorem wo_not {x : XV} {b : Bool} (hx : evE env x = some (.bool b)) (hk : K (.bool (!b)) h) : WO P X M c (.not x) env h K := wo_of (fun sl hs call k => by simp only [SO.den, oNot, hs.ev hx, boolK, forceBool_eq]) hk
theorem wo_faddr {o : Nat} {x : XV} {id off : Nat} (hx : evE env x = some (.ptr id off)) (hk : K (.ptr id (off + o)) h) : WO P X M c (.faddr o x) env h K := wo_of (fun sl hs call k => by simp only [SO.den, oFaddr, hs.ev hx, forceNat_eq]; rfl) hk
theorem wo_iaddr {esz : Nat} {x i : XV} {id off n es j : Nat} {cap : Option Nat} {p : IntKind} {z : Int} (hx : evE env x = some (.sl id off n es cap)) (hi : evE env i = some (.int p z)) (hz : z = (j : Int)) (hj : j < n) (hk : K (.ptr id (off + j * esz)) h) : WO P X M c (.iaddr esz x i) env h K :=
 wo_of (fun sl hs call k => by
  subst hz
  have hb : Nat.blt j n = true := by simpa [Nat.blt_eq] using hj
  have ha : asNat (.int p (j : Int)) = some j := rfl
  simp only [SO.den, oIaddr, hs.ev hx, hs.ev hi, ha, hb, cond, forceNat_eq]; rfl) hk
theorem wo_lenL {x : XV} {id off n es : Nat} {cap : Option Nat} (hx : evE env x = some (.sl id off n es cap)) (hk : K (.int .i64 (n : Int)) h) : WO P X M c (.lenL x) env h K := wo_of (fun sl hs call k => by simp only [SO.den, oLenL, hs.ev hx]; rfl) hk
theorem wo_lenL0 {x : XV} (hx : evE env x = some .nils) (hk : K (.int .i64 0) h) : WO P X M c (.lenL x) env h K := wo_of (fun sl hs call k => by simp only [SO.den, oLenL, hs.ev hx]; rfl) hk
theorem wo_lenLr {x : XV} {oa : Option Addr} {n cp : Nat} (hx : evE env x = some (.raw oa n cp)) (hk : K (.int .i64 (n : Int)) h) : WO P X M c (.lenL x) env h K := wo_of (fun sl hs call k => by simp only [SO.den, oLenL, hs.ev hx]; rfl) hk
theorem wo_lenS {x : XV} {s : List Nat} (hx : evE env x = some (.str s)) (hk : K (.int .i64 (s.length : Int)) h) : WO P X M c (.lenS x) env h K := wo_of (fun sl hs call k => by simp only [SO.den, oLenS, hs.ev hx, forceNat_eq, lenN_eq]; rfl) hk
theorem wo_extr {x : XV} {i : Nat} {vs : List AV} {v : AV} (hx : evE env x = some (.tup vs)) (hv : vs[i]? = some v) (hk : K v h) : WO P X M c (.extr x i) env h K := wo_of (fun sl hs call k => by simp only [SO.den, oExtr, hs.ev hx, nth_eq, hv]) hk
theorem wo_mkfn {f : Nat} {cs : List XV} {vs : List AV} (hx : evEs env cs = some vs) (hk : K (.fn f vs) h) : WO P X M c (.mkfn f cs) env h K := wo_of (fun sl hs call k => by simp only [SO.den, oMkfn, evVs_eq, hs.evs hx]) hk
theorem wo_mkmap (hn : h.n < 10000000) (hk : K (.mp h.n) (h.new (.map [] 0))) : WO P X M c .mkmap env h K := wo_of (fun sl hs call k => by simp only [SO.den, oMkmap, newB_eq hn]) hk
def optE (env : Env') (d : Nat) : Option XV → Option Nat
 | none => some d
 | some x => match evE env x with
  | some (.int _ (.ofNat n)) => some n
  | _ => none
theorem opt_ok {sl : Tr AV} (hs : Has sl env) {d : Nat} {x : Option XV} {n : Nat} (e : optE env d x = some n) : optNat sl d x = some n := by
 cases x with
 | none => exact e
 | some x =>
  simp only [optE] at e
  split at e
  ·rename_i k m hm
   cases e
   simp only [optNat, hs.ev hm]; rfl
  ·cases e
theorem wo_slice {esz : Nat} {x : XV} {lo hi : Option XV} {id off n es l u : Nat} {cap : Option Nat} (hx : evE env x = some (.sl id off n es cap)) (hl : optE env 0 lo = some l) (hu : optE env n hi = some u) (h1 : l ≤ u) (h2 : u ≤ n) (h3 : es = esz)
  (hk : K (.sl id (off + l * esz) (u - l) es (cap.map fun q => q - l)) h) : WO P X M c (.slice esz x lo hi) env h K :=
 wo_of (fun sl hs call k => by
  have hb : Nat.beq es esz = true := by simp [h3]
  simp only [SO.den, oSlice, hs.ev hx, opt_ok hs hl, opt_ok hs hu, Nat.ble_eq_true_of_le h1, Nat.ble_eq_true_of_le h2, hb, Bool.and_self, cond, forceNat_eq]
  cases cap <;> rfl) hk
/-! maps -/
def lookV (ok : Bool) (v : AV) (b : Bool) : AV := bif ok then .tup [v, .bool b] else v
def lookR (ok : Bool) (z : AV) : Option (Nat × AV) → AV
 | some p => lookV ok p.2 true
 | none => lookV ok z false
theorem lookOut_eq (ok : Bool) (v : AV) (b : Bool) (h : H) (k : Kont) : lookOut ok v b h k = k (lookV ok v b) h := by cases ok <;> rfl
theorem wo_lookup {q : SQ} {z : AV} {x key : XV} {ok : Bool} {kv : AV} {id clock : Nat} {es : List (AV × AV × Nat)} {r : Option (Nat × AV)} (hx : evE env x = some (.mp id)) (hkey : evE env key = some kv) (hfit : q.den kv kv = some true) (hs : seen c.vis id = true) (hg : h.get id = some (.map es clock)) (hf : findE q.den kv es 0 = some r)
  (hk : K (lookR ok z r) h) : WO P X M c (.lookup q z x key ok) env h K :=
 wo_of (fun sl hh call k => by
  simp only [SO.den, oLookup, hh.ev hx, hh.ev hkey, fitK, hfit, getB_eq hs, hg, hf]
  cases r with
  | none => simp only [lookOut_eq, lookR]
  | some p => obtain ⟨i, v⟩ := p; simp only [lookOut_eq, lookR]) hk
theorem setE_eq {R : Type} (v : AV) : ∀ (i : Nat) (es : List (AV × AV × Nat)) (k : List (AV × AV × Nat) → Option R) (hi : i < es.length), setE v i es k = k (es.set i (es[i].1, v, es[i].2.2))
 | _, [], _, hi => by simp at hi
 | 0, e :: es, k, _ => by simp [setE]
 | i + 1, e :: es, k, hi => by
  simp only [setE, List.set_cons_succ, List.getElem_cons_succ]
  exact setE_eq v i es _ (by simpa using hi)
theorem wo_mapup_old {q : SQ} {m key v : XV} {kv u u0 : AV} {id clock i : Nat} {es : List (AV × AV × Nat)} (hm : evE env m = some (.mp id)) (hkey : evE env key = some kv) (hv : evE env v = some u) (hfit : q.den kv kv = some true) (hfl : c.floor ≤ id) (hs : seen c.vis id = true) (hg : h.get id = some (.map es clock)) (hf : findE q.den kv es 0 = some (some (i, u0))) (hi : i < es.length)
  (hk : K (.tup []) (h.put id (.map (es.set i (es[i].1, u, es[i].2.2)) clock))) : WO P X M c (.mapup q m key v) env h K :=
 wo_of (fun sl hh call k => by
  simp only [SO.den, oMapup, hh.ev hm, hh.ev hkey, hh.ev hv, fitK, hfit, getB_eq hs, hg, hf]
  rw [setE_eq _ _ _ _ hi, setB_eq hfl hs]) hk
theorem wo_mapup_new {q : SQ} {m key v : XV} {kv u : AV} {id clock : Nat} {es : List (AV × AV × Nat)} (hm : evE env m = some (.mp id)) (hkey : evE env key = some kv) (hv : evE env v = some u) (hfit : q.den kv kv = some true) (hfl : c.floor ≤ id) (hs : seen c.vis id = true) (hg : h.get id = some (.map es clock)) (hf : findE q.den kv es 0 = some none)
  (hk : K (.tup []) (h.put id (.map (es ++ [(kv, u, clock)]) (clock + 1)))) : WO P X M c (.mapup q m key v) env h K :=
 wo_of (fun sl hh call k => by
  simp only [SO.den, oMapup, hh.ev hm, hh.ev hkey, hh.ev hv, fitK, hfit, getB_eq hs, hg, hf, appK_eq, forceNat_eq]
  rw [setB_eq hfl hs]) hk
/-! appending -/
theorem srcK_nil {esz : Nat} {k : Nat → List AV → Out} : srcK c h esz .nils k = k 0 [] := rfl
theorem srcK_sl {esz id off n es : Nat} {cap : Option Nat} {vs us : List AV} {k : Nat → List AV → Out} (hs : seen c.vis id = true) (hg : h.get id = some (.cells vs)) (he : es = esz) (hl : off + n * esz ≤ vs.length) (hu : (vs.drop off).take (n * esz) = us) : srcK c h esz (.sl id off n es cap) k = k n us := by
 have hb : Nat.beq es esz = true := by simp [he]
 simp only [srcK, hb, cond, cellsAt, getB_eq hs, hg]
 rw [dropK_eq _ _ _ (by omega)]
 show takeK (n * esz) _ _ = _
 rw [takeK_eq _ _ _ (by simp; omega), hu]
theorem wo_app0 {esz : Nat} {s x : XV} {id off n es : Nat} {cap : Option Nat} {vs us : List AV} (hs0 : evE env s = some .nils) (hx : evE env x = some (.sl id off n es cap)) (hs : seen c.vis id = true) (hg : h.get id = some (.cells vs)) (he : es = esz) (hl : off + n * esz ≤ vs.length) (hu : (vs.drop off).take (n * esz) = us) (ho : ones us = true) (hn0 : 0 < n) (hn1 : n ≤ 1000000) (hn : h.n < 10000000)
  (hk : K (.sl h.n 0 n esz none) (h.new (.cells us))) : WO P X M c (.append esz s x) env h K :=
 wo_of (fun sl hh call k => by
  have h0 : Nat.beq n 0 = false := by rw [beq_dec]; simp; omega
  have h1 : Nat.blt 1000000 n = false := blt_false hn1
  simp only [SO.den, oAppend, hh.ev hs0, hh.ev hx]
  rw [srcK_sl hs hg he hl hu]
  simp only [ho, cond, ontoK, h0, h1]
  rw [newB_eq hn]) hk
theorem wo_app {esz : Nat} {s x : XV} {id off n es : Nat} {cap : Option Nat} {vs us : List AV} {id' off' m es' : Nat} {cap' : Option Nat} {vs' us' : List AV} (hs0 : evE env s = some (.sl id' off' m es' cap')) (hx : evE env x = some (.sl id off n es cap)) (hs : seen c.vis id = true) (hg : h.get id = some (.cells vs)) (he : es = esz) (hl : off + n * esz ≤ vs.length) (hu : (vs.drop off).take (n * esz) = us) (ho : ones us = true) (hn0 : 0 < n)
  (hs' : seen c.vis id' = true) (hfl : c.floor ≤ id') (hg' : h.get id' = some (.cells vs')) (he' : es' = esz) (hl' : off' + m * esz ≤ vs'.length) (hu' : (vs'.drop off').take (m * esz) = us') (hcap : sureGrow cap' (m + n) = false) (hn1 : m + n ≤ 1000000) (hn : h.n < 10000000)
  (hk : K (.sl h.n 0 (m + n) esz none) ((h.put id' .dead).new (.cells (us' ++ us)))) : WO P X M c (.append esz s x) env h K :=
 wo_of (fun sl hh call k => by
  have h0 : Nat.beq n 0 = false := by rw [beq_dec]; simp; omega
  have h1 : Nat.blt 1000000 (m + n) = false := blt_false hn1
  have hb : Nat.beq es' esz = true := by simp [he']
  simp only [SO.den, oAppend, hh.ev hs0, hh.ev hx]
  rw [srcK_sl hs hg he hl hu]
  simp only [ho, cond, ontoK, hb, h0, cellsAt, getB_eq hs', hg']
  rw [dropK_eq _ _ _ (by omega)]
  show takeK (m * esz) _ _ = _
  rw [takeK_eq _ _ _ (by simp; omega), hu']
  simp only [appK_eq, forceNat_eq]
  show (bif Nat.blt 1000000 (m + n) then _ else _) = _
  rw [h1]
  simp only [cond]
  show (bif sureGrow cap' (m + n) then _ else _) = _
  rw [hcap]
  simp only [cond]
  rw [setB_eq hfl hs', newB_eq (h := h.put id' .dead) hn]; rfl) hk
theorem wo_appG {esz : Nat} {s x : XV} {id off n es : Nat} {cap : Option Nat} {vs us : List AV} {id' off' m es' : Nat} {cap' : Option Nat} {vs' us' : List AV} (hs0 : evE env s = some (.sl id' off' m es' cap')) (hx : evE env x = some (.sl id off n es cap)) (hs : seen c.vis id = true) (hg : h.get id = some (.cells vs)) (he : es = esz) (hl : off + n * esz ≤ vs.length) (hu : (vs.drop off).take (n * esz) = us) (ho : ones us = true) (hn0 : 0 < n)
  (hs' : seen c.vis id' = true) (hg' : h.get id' = some (.cells vs')) (he' : es' = esz) (hl' : off' + m * esz ≤ vs'.length) (hu' : (vs'.drop off').take (m * esz) = us') (hcap : sureGrow cap' (m + n) = true) (hn1 : m + n ≤ 1000000) (hn : h.n < 10000000)
  (hk : K (.sl h.n 0 (m + n) esz none) (h.new (.cells (us' ++ us)))) : WO P X M c (.append esz s x) env h K :=
 wo_of (fun sl hh call k => by
  have h0 : Nat.beq n 0 = false := by rw [beq_dec]; simp; omega
  have h1 : Nat.blt 1000000 (m + n) = false := blt_false hn1
  have hb : Nat.beq es' esz = true := by simp [he']
  simp only [SO.den, oAppend, hh.ev hs0, hh.ev hx]
  rw [srcK_sl hs hg he hl hu]
  simp only [ho, cond, ontoK, hb, h0, cellsAt, getB_eq hs', hg']
  rw [dropK_eq _ _ _ (by omega)]
  show takeK (m * esz) _ _ = _
  rw [takeK_eq _ _ _ (by simp; omega), hu']
  simp only [appK_eq, forceNat_eq]
  show (bif Nat.blt 1000000 (m + n) then _ else _) = _
  rw [h1]
  simp only [cond]
  show (bif sureGrow cap' (m + n) then _ else _) = _
  rw [hcap]
  simp only [cond]
  rw [newB_eq hn]; rfl) hk
theorem wo_appN {esz : Nat} {s x : XV} {v : AV} (hs0 : evE env s = some v) (hv : v = .nils ∨ ∃ id off m cap, v = .sl id off m esz cap) (hx : evE env x = some .nils) (hk : K v h) : WO P X M c (.append esz s x) env h K :=
 wo_of (fun sl hh call k => by
  simp only [SO.den, oAppend, hh.ev hs0, hh.ev hx, srcK_nil]
  rcases hv with rfl | ⟨id, off, m, cap, rfl⟩
  ·rfl
  ·have hb : Nat.beq esz esz = true := by simp
   simp only [ones, cond, ontoK, hb]) hk
/-! calls -/
theorem wo_call {f : XV} {args : List XV} {g : Nat} {caps vs : List AV} (hf : evE env f = some (.fn g caps)) (ha : evEs env args = some vs) (hk : Gv P X M c g (vs ++ caps) h K) : WO P X M c (.call f args) env h K := .mk fun sl hs => by
 obtain ⟨v, h', ⟨N, hN⟩, hk⟩ := hk
 refine ⟨v, h', ⟨N, fun n hn k => ?_⟩, hk⟩
 simp only [SO.den, oCall, hs.ev hf, evVs_eq, hs.evs ha, appK_eq]
 have e : callOf (ev (cC P) (tblX P X) M n) (.fn g) (vs ++ caps) c h = some (v, h') := by unfold callOf; rw [hN n hn]
 rw [e]
end
section
variable {P : Program} {X : Exts} {M : Mf} {c : C} {nt : Nat} {env : Env'} {h : H} {Q : Env' → H → Prop} {d p : Nat} {op : SO} {m b : Bool} {f : Option XV} {ops : List SR}
/-! in the text's order -/
theorem rg_off {g : Nat × Bool} (hnt : nt ≤ 1000000) (hg : wantsE env (some g) = some false) (hd : Nat.blt d nt = true) (w : WG P X M c nt ops ((d, .tup []) :: env) h Q) : WG P X M c nt (⟨some d, op, some g, p, m, b, f⟩ :: ops) env h Q := wg_off hnt hg hd w
/-! in any order -/
variable {base : List (Nat × Nat)} {i : Nat} {rs : List (Nat × Nat × Nat)} {bs : List (Nat × Tr AB × Tr AB)} {fs : List (Nat × Nat)}
theorem rd_pure {g : Option (Nat × Bool)} (hnt : nt ≤ 1000000) (hg : wantsE env g = some true) (hd : Nat.blt d nt = true) (w : WO P X M ⟨h.n, [(h.n, big)]⟩ op env h (fun v h' => WD P X M c nt base ops (i + 1) (addR i h.n h'.n rs) bs fs ((d, v) :: env) h' Q)) : WD P X M c nt base (⟨some d, op, g, p, false, b, none⟩ :: ops) i rs bs fs env h Q := wd_pure hnt hg hd rfl rfl w
theorem rd_off {g : Nat × Bool} (hnt : nt ≤ 1000000) (hg : wantsE env (some g) = some false) (hd : Nat.blt d nt = true) (w : WD P X M c nt base ops (i + 1) rs bs fs ((d, .tup []) :: env) h Q) : WD P X M c nt base (⟨some d, op, some g, p, m, b, f⟩ :: ops) i rs bs fs env h Q := wd_off hnt hg hd w
theorem rd_foot {g : Option (Nat × Bool)} {x : XV} {a : AV} {A : Nat} (hnt : nt ≤ 1000000) (hg : wantsE env g = some true) (hd : Nat.blt d nt = true) (ha : evE env x = some a) (hA : footId a = some A) (hsee : seen ((h.n, big) :: visOf p base rs) A = true) (hun : unchB p A bs = true)
  (w : WO P X M ⟨h.n, [(h.n, big), (A, Nat.succ A)]⟩ op env h (fun v h' => WD P X M c nt base ops (i + 1) (addR i h.n h'.n rs) bs ((i, A) :: fs) ((d, v) :: env) h' Q)) : WD P X M c nt base (⟨some d, op, g, p, m, b, some x⟩ :: ops) i rs bs fs env h Q := wd_foot hnt hg hd rfl ha hA hsee hun w
theorem rd_bar {g : Option (Nat × Bool)} (hnt : nt ≤ 1000000) (hg : wantsE env g = some true) (hd : Nat.blt d nt = true) (w : WO P X M ⟨c.floor, (h.n, big) :: visOf p base rs⟩ op env h (fun v h' => unchF p h.t h'.t fs = true ∧ WD P X M c nt base ops (i + 1) (addR i h.n h'.n rs) ((i, h.t, h'.t) :: bs) fs ((d, v) :: env) h' Q)) : WD P X M c nt base (⟨some d, op, g, p, true, true, none⟩ :: ops) i rs bs fs env h Q := wd_bar hnt hg hd rfl rfl rfl w
theorem rd_bar0 {g : Option (Nat × Bool)} (hnt : nt ≤ 1000000) (hg : wantsE env g = some true) (w : WO P X M ⟨c.floor, (h.n, big) :: visOf p base rs⟩ op env h (fun v h' => unchF p h.t h'.t fs = true ∧ WD P X M c nt base ops (i + 1) (addR i h.n h'.n rs) ((i, h.t, h'.t) :: bs) fs env h' Q)) : WD P X M c nt base (⟨none, op, g, p, true, true, none⟩ :: ops) i rs bs fs env h Q := wd_bar hnt hg rfl rfl rfl rfl w
end
/-! what is seen -/
theorem seen_cons {r : Nat × Nat} {l : List (Nat × Nat)} {id : Nat} (h : id < r.1) (hs : seen l id = true) : seen (r :: l) id = true := by
 simp only [seen]
 have : Nat.ble r.1 id = false := by
  cases hb : Nat.ble r.1 id with
  | false => rfl
  | true => have := Nat.le_of_ble_eq_true hb; omega
 rw [this]; exact hs
theorem seen_here {a e : Nat} {l : List (Nat × Nat)} {id : Nat} (h1 : a ≤ id) (h2 : id < e) : seen ((a, e) :: l) id = true := by
 simp only [seen, Nat.ble_eq_true_of_le h1, cond]
 simpa [Nat.blt_eq] using h2
theorem seen_cut {n id : Nat} : ∀ {l : List (Nat × Nat)}, seen l id = true → id < n → seen (cutBase n l) id = true
 | [], h, _ => by cases h
 | r :: rs, h, hn => by
  simp only [seen] at h
  unfold cutBase
  cases hb : Nat.ble n r.1 with
  | true =>
   have h1 := Nat.le_of_ble_eq_true hb
   have : Nat.ble r.1 id = false := by
    cases hx : Nat.ble r.1 id with
    | false => rfl
    | true => have := Nat.le_of_ble_eq_true hx; omega
   rw [this] at h
   exact seen_cut h hn
  | false =>
   simp only [cond]
   cases hc : Nat.ble r.2 n with
   | true =>
    simp only [seen]
    cases hd : Nat.ble r.1 id with
    | true => rw [hd] at h; exact h
    | false => rw [hd] at h; exact seen_cut h hn
   | false =>
    simp only [seen]
    cases hd : Nat.ble r.1 id with
    | true => simp only [cond]; simpa [Nat.blt_eq] using hn
    | false => rw [hd] at h; exact seen_cut h hn
theorem seen_vis {preds n0 id : Nat} {base : List (Nat × Nat)} : ∀ {rs : List (Nat × Nat × Nat)}, (∀ r ∈ rs, n0 ≤ r.2.1) → id < n0 → seen base id = true → seen (visOf preds base rs) id = true
 | [], _, _, h => h
 | r :: rs, hr, hid, h => by
  have ih := seen_vis (preds := preds) (rs := rs) (fun q hq => hr q (List.mem_cons_of_mem _ hq)) hid h
  unfold visOf
  cases Nat.testBit preds r.1 with
  | false => exact ih
  | true => exact seen_cons (by have := hr r (by simp); simp; omega) ih
theorem seen_old {preds n0 n id : Nat} {vis : List (Nat × Nat)} {rs : List (Nat × Nat × Nat)} (hr : ∀ r ∈ rs, n0 ≤ r.2.1) (hn : n0 ≤ n) (hid : id < n0) (h : seen vis id = true) : seen ((n, big) :: visOf preds (cutBase n0 vis) rs) id = true :=
 seen_cons (by simp; omega) (seen_vis hr hid (seen_cut h hid))
theorem rs_nil {n0 : Nat} : ∀ r ∈ ([] : List (Nat × Nat × Nat)), n0 ≤ r.2.1 := fun r hr => by cases hr
theorem rs_add {n0 i n n' : Nat} {rs : List (Nat × Nat × Nat)} (h : n0 ≤ n) (hr : ∀ r ∈ rs, n0 ≤ r.2.1) : ∀ r ∈ addR i n n' rs, n0 ≤ r.2.1 := fun r hq => by
 unfold addR at hq
 cases hb : Nat.beq n n' with
 | true => rw [hb] at hq; exact hr r hq
 | false =>
  rw [hb] at hq
  rcases List.mem_cons.1 hq with rfl | hq
  ·exact h
  ·exact hr r hq
/-! a block that did not change -/
theorem eqON_refl (a : Option Nat) : eqON a a = true := by cases a <;> simp [eqON]
theorem eqL_refl (a : List Nat) : eqL a a = true := by rw [eqL_eq]; simp
theorem eqI_refl (a : Int) : eqI a a = true := by rw [eqI_eq]; simp
mutual
theorem eqAV_refl : ∀ x : AV, eqAV x x = true
 | .bool b => by simp [eqAV]
 | .int k n => by simp [eqAV, kindEq_refl, eqI_refl]
 | .str s => by simp [eqAV, eqL_refl]
 | .nilp => by simp [eqAV]
 | .ptr a b => by simp [eqAV]
 | .nils => by simp [eqAV]
 | .sl a b c d e => by simp [eqAV, eqON_refl]
 | .nilm => by simp [eqAV]
 | .mp a => by simp [eqAV]
 | .nilf => by simp [eqAV]
 | .fn f cs => by simp [eqAV, eqAVs_refl cs]
 | .nili => by simp [eqAV]
 | .yld a => by simp [eqAV]
 | .iface t v => by simp [eqAV, eqAV_refl v]
 | .agg cs => by simp [eqAV, eqAVs_refl cs]
 | .tup cs => by simp [eqAV, eqAVs_refl cs]
 | .raw oa n cp => by simp [eqAV]
 | .fnb f t v => by simp [eqAV, eqAVs_refl t, eqAVs_refl v]
 | .var a => by simp [eqAV]
 | .top => by simp [eqAV]
theorem eqAVs_refl : ∀ xs : List AV, eqAVs xs xs = true
 | [] => by simp [eqAVs]
 | x :: xs => by simp [eqAVs, eqAV_refl x, eqAVs_refl xs]
end
theorem unchB_nil {preds A : Nat} : unchB preds A [] = true := rfl
theorem unchB_pred {preds A i : Nat} {t t' : Tr AB} {bs : List (Nat × Tr AB × Tr AB)} (h : Nat.testBit preds i = true) (h' : unchB preds A bs = true) : unchB preds A ((i, t, t') :: bs) = true := by
 simp only [unchB, h, h', Bool.true_or, Bool.and_self]
theorem unchB_same {preds A i : Nat} {h1 h2 : H} {vs : List AV} {bs : List (Nat × Tr AB × Tr AB)} (q1 : h1.get A = some (.cells vs)) (q2 : h2.get A = some (.cells vs)) (h' : unchB preds A bs = true) : unchB preds A ((i, h1.t, h2.t) :: bs) = true := by
 have e : eqOB (Tr.get h1.t A) (Tr.get h2.t A) = true := by
  have a1 : Tr.get h1.t A = some (.cells vs) := q1
  have a2 : Tr.get h2.t A = some (.cells vs) := q2
  rw [a1, a2]
  simp only [eqOB, eqAB, eqAVs_refl]
 simp only [unchB, e, h', Bool.or_true, Bool.and_self]
structure Cx (c : C) (h : H) : Prop where
 low : c.floor ≤ h.n
 vis : ∀ id, h.n ≤ id → id < big → seen c.vis id = true
theorem Cx.mono {c : C} {h h' : H} (x : Cx c h) (hle : h.n ≤ h'.n) : Cx c h' := ⟨Nat.le_trans x.low hle, fun id h1 h2 => x.vis id (Nat.le_trans hle h1) h2⟩
theorem Cx.mem {h : H} {l : List (Nat × Nat)} {fl : Nat} (hf : fl ≤ h.n) : Cx ⟨fl, (h.n, big) :: l⟩ h := ⟨hf, fun id h1 h2 => seen_here h1 h2⟩
theorem Cx.new {c : C} {h : H} (x : Cx c h) {id : Nat} (h1 : h.n ≤ id) (h2 : id < 10000000) : seen c.vis id = true := x.vis id h1 (by unfold big; omega)
section
variable {P : Program} {X : Exts} {M : Mf} {c : C} {nt : Nat} {env : Env'} {h : H} {d p : Nat} {op : SO} {m b : Bool} {f : Option XV} {ops : List SR}
theorem rg_go {Q : Env' → H → Prop} {g : Option (Nat × Bool)} (hnt : nt ≤ 1000000) (hg : wantsE env g = some true) (hd : Nat.blt d nt = true) (w : WO P X M c op env h (fun v h' => WG P X M c nt ops ((d, v) :: env) h' Q)) : WG P X M c nt (⟨some d, op, g, p, m, b, f⟩ :: ops) env h Q := wg_op hnt hg hd w
theorem rg_go0 {Q : Env' → H → Prop} {g : Option (Nat × Bool)} (hnt : nt ≤ 1000000) (hg : wantsE env g = some true) (w : WO P X M c op env h (fun v h' => WG P X M c nt ops env h' Q)) : WG P X M c nt (⟨none, op, g, p, m, b, f⟩ :: ops) env h Q := wg_op hnt hg rfl w
theorem wc_t {v : XV} {a b : SC} {Q : Ex → Env' → H → Prop} (hv : evE env v = some (.bool true)) (w : WC P X M c nt a env h Q) : WC P X M c nt (.cond v a b) env h Q := wc_cond hv (fun _ => w) (fun q => by cases q)
theorem wc_f {v : XV} {a b : SC} {Q : Ex → Env' → H → Prop} (hv : evE env v = some (.bool false)) (w : WC P X M c nt b env h Q) : WC P X M c nt (.cond v a b) env h Q := wc_cond hv (fun q => by cases q) (fun _ => w)
theorem wo_boxA {x : XV} {v : AV} {cs : List AV} {K : AV → H → Prop} (hx : evE env x = some v) (hc : v.cells = cs) (hn : h.n < 10000000) (hk : ∀ h1, h1.n = h.n + 1 → h1.get h.n = some (.cells cs) → Grew h h1 → K (.ptr h.n 0) h1) (hok : okT v = true := by first | rfl | (apply okT_one; assumption)) : WO P X M c (.box x) env h K := by
 subst hc
 exact wo_box hx hn (hk _ rfl (get_new_same hn _) (Grew.new hn _)) hok
theorem wo_bsliceA {n : Nat} {z : List AV} {ps : List (Nat × Nat × XV)} {l : List AV} {K : AV → H → Prop} (hp : partsE env ps (List.replicate n z).flatten = some l) (hn : h.n < 10000000) (hk : ∀ h1, h1.n = h.n + 1 → h1.get h.n = some (.cells l) → Grew h h1 → K (.sl h.n 0 n z.length (some n)) h1) : WO P X M c (.bslice n z ps) env h K :=
 wo_bslice hp hn (hk _ rfl (get_new_same hn _) (Grew.new hn _))
theorem wo_mkmapA {K : AV → H → Prop} (hn : h.n < 10000000) (hk : ∀ h1, h1.n = h.n + 1 → h1.get h.n = some (.map [] 0) → Grew h h1 → K (.mp h.n) h1) : WO P X M c .mkmap env h K :=
 wo_mkmap hn (hk _ rfl (get_new_same hn _) (Grew.new hn _))
def roundE {ι : Type} (E : ι → Env') (R : ι → H → Prop) (μ : ι → Nat) (i : ι) (Q : Ex → Env' → H → Prop) : Ex → Env' → H → Prop := fun e env h => match e with
 | .normal => ∃ i', μ i' < μ i ∧ Sub' (E i') env ∧ R i' h
 | e => Q e env h
theorem wc_loopE {ι : Type} {b : SC} {Q : Ex → Env' → H → Prop} (E : ι → Env') (R : ι → H → Prop) (μ : ι → Nat) (step : ∀ i h, R i h → WC P X M c nt b (E i) h (roundE E R μ i Q)) (i0 : ι) (h0 : R i0 h) (hs : Sub' (E i0) env) : WC P X M c nt (.loop b) env h Q :=
 wc_loop (fun k env h => ∃ i, μ i = k ∧ Sub' (E i) env ∧ R i h) (fun k env h ⟨i, hk, hs, hR⟩ => by
  refine ((step i h hR).less hs).mono fun e env' h' q => ?_
  cases e with
  | normal =>
   obtain ⟨i', h1, h2, h3⟩ := q
   exact ⟨μ i', by omega, i', rfl, h2, h3⟩
  | exit id => exact q
  | ret => exact q) (μ i0) ⟨i0, rfl, hs, h0⟩
end
end Go.Proofs.YtmdceifbbmnfgaaGreatDoor.Ev
