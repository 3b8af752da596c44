/- CoverStates, part 8 -/
import Derived.Test.YtgaihilgffficaaGreatDoorEvQ
import Derived.Laws.Cover3
import Derived.Laws.Pointers
set_option linter.all false
namespace Go.Proofs.YtgaihilgffficaaGreatDoor.Ev
open Go
theorem filter_lt {α : Type} {p q : α → Bool} : ∀ {l : List α} {x : α}, x ∈ l → p x = true → q x = false → (∀ y, q y = true → p y = true) → (l.filter q).length < (l.filter p).length
 | [], x, h, _, _, _ => by cases h
 | y :: l, x, h, h1, h2, h3 => by
  have le : (l.filter q).length ≤ (l.filter p).length := by
   clear h
   induction l with
   | nil => simp
   | cons z l ih =>
    by_cases hz : q z = true
    ·rw [List.filter_cons_of_pos hz, List.filter_cons_of_pos (h3 z hz)]; simp; exact ih
    ·rw [List.filter_cons_of_neg hz]
     refine Nat.le_trans ih ?_
     by_cases hz' : p z = true
     ·rw [List.filter_cons_of_pos hz']; simp
     ·rw [List.filter_cons_of_neg hz']; exact Nat.le_refl _
  rcases List.mem_cons.1 h with rfl | h
  ·rw [List.filter_cons_of_pos h1, List.filter_cons_of_neg (by rw [h2]; simp)]
   simp; omega
  ·have ih := filter_lt h h1 h2 h3
   by_cases hz : q y = true
   ·rw [List.filter_cons_of_pos hz, List.filter_cons_of_pos (h3 y hz)]; simp; exact ih
   ·rw [List.filter_cons_of_neg hz]
    by_cases hz' : p y = true
    ·rw [List.filter_cons_of_pos hz']; simp; omega
    ·rw [List.filter_cons_of_neg hz']; exact ih
section
variable {dr : Prop}
section
variable {P : Program} {ng : Nat} {X : dg} {M : Mf}
def dG (dr : Prop) (P : Program) (ng : Nat) (M : Mf) : Prop := ∀ f args c h v h', M f args c h = some (v, h') → Ctx c h → WF h → uY dr P ng (.fn f) args c h v h'
theorem FJ {n : Nat} (hmx : P.follows .mixedOrders = true) (hO : FK dr P ng) (hng : P.globals.size ≤ ng) (ihc : uZ dr P ng (ev (cC P) (bW P X) M n)) (ihf : jV dr P ng (gm (ev (cC P) (bW P X) M n))) : uZ dr P ng (ev (cC P) (bW P X) M (n + 1)) := by
 intro c nt rd code sl ds h e sl' ds' h' hnt hc hw hev
 have hev' : jj (ev (cC P) (bW P X) M n) c nt rd (cC P code) sl ds h = .code e sl' ds' h' := hev
 cases code with
 | skip =>
  simp only [cC, jj] at hev'
  cases hev'
  exact cd.nothing hw fun r m Q a w hQ => wpIn_skip hQ
 | region id ops draws =>
  cases draws with
  | false =>
   simp only [cC, jj] at hev'
   obtain ⟨rfl, rfl, e1⟩ := sa hev'
   exact FL hO ihf hng hnt hw hc e1
  | true =>
   simp only [cC] at hev'
   cases jt : Mu ops (Region.before ops) with
   | false => rw [jt] at hev'; simp only [cond, jj] at hev'; cases hev'
   | true =>
    rw [jt] at hev'
    simp only [cond, jj] at hev'
    obtain ⟨rfl, rfl, e1⟩ := sa hev'
    exact Di hmx hO ihf hng hnt jt hw hc e1
 | seq x y =>
  simp only [cC, jj] at hev'
  cases hx : ev (cC P) (bW P X) M n c (.code nt rd (cC P x) sl ds) h with
  | bad => rw [hx] at hev'; cases hev'
  | call _ _ => rw [hx] at hev'; cases hev'
  | code e1 sl1 ds1 h1 =>
   rw [hx] at hev'
   have d1 := ihc c nt rd x sl ds h e1 sl1 ds1 h1 hnt hc hw hx
   cases e1 with
   | normal =>
    simp only [dT] at hev'
    exact d1.seq (ihc c nt rd y sl1 ds1 h1 e sl' ds' h' hnt (hc.mono d1.1.le) d1.1.wf hev')
   | exit id => simp only [dT] at hev'; cases hev'; exact d1.Im (fun q => by cases q)
   | ret => simp only [dT] at hev'; cases hev'; exact d1.Im (fun q => by cases q)
 | cond v x y =>
  simp only [cC] at hev'
  cases hv : cV v with
  | none => rw [hv] at hev'; simp only [jj] at hev'; cases hev'
  | some xv =>
   rw [hv] at hev'
   cases hg : NT P v with
   | false => rw [hg] at hev'; simp only [jj] at hev'; cases hev'
   | true =>
    rw [hg] at hev'
    simp only [jj] at hev'
    have key : ∀ (β : cn) (a : Act) df, GB ng β → tu nt df β sl a → VR β (bR sl xv) (a.eval v) := fun β a df hgb hsl =>
     yZ (P := P) (ys := [v]) hng hgb (by simp [hg]) (fun t _ => hsl.at_ t) v (by simp) xv hv
    cases hs : bR sl xv <;> rw [hs] at hev' <;> first | (simp only [mP] at hev'; cases hev'; done) | skip
    rename_i b
    cases b with
    | true =>
     simp only [mP] at hev'
     have d := ihc c nt rd x sl ds h e sl' ds' h' hnt hc hw hev'
     refine ⟨d.1, fun β a w df hgb hr hdf hsl hfr ro m hro Q hQ => ?_⟩
     have k := key β a df hgb hsl
     rw [hs] at k; simp only [VR] at k
     exact wpIn_cond_true k (Dj.wp (d.2 β a w df hgb hr hdf hsl hfr ro m hro Q hQ))
    | false =>
     simp only [mP] at hev'
     have d := ihc c nt rd y sl ds h e sl' ds' h' hnt hc hw hev'
     refine ⟨d.1, fun β a w df hgb hr hdf hsl hfr ro m hro Q hQ => ?_⟩
     have k := key β a df hgb hsl
     rw [hs] at k; simp only [VR] at k
     exact wpIn_cond_false k (Dj.wp (d.2 β a w df hgb hr hdf hsl hfr ro m hro Q hQ))
 | block id x =>
  simp only [cC, jj] at hev'
  cases hx : ev (cC P) (bW P X) M n c (.code nt rd (cC P x) sl ds) h with
  | bad => rw [hx] at hev'; cases hev'
  | call _ _ => rw [hx] at hev'; cases hev'
  | code e1 sl1 ds1 h1 =>
   rw [hx] at hev'
   have d1 := ihc c nt rd x sl ds h e1 sl1 ds1 h1 hnt hc hw hx
   have fin : e1 ≠ .exit id → e1 = e → sl1 = sl' → ds1 = ds' → h1 = h' → cd dr P ng nt rd (.block id x) c sl ds h e sl' ds' h' := fun hne q1 q2 q3 q4 => by
    subst q1 q2 q3 q4
    refine ⟨d1.1, fun β a w df hgb hr hdf hsl hfr ro m hro Q hQ => ?_⟩
    show (Code.block id x).wpIn (W ro) m P Q a w
    refine wpIn_block (Dj.wp (d1.2 β a w df hgb hr hdf hsl hfr ro m hro _ fun β1 a1 w1 df1 hP1 hd1 hs1 => ?_))
    cases e1 with
    | normal => exact hQ β1 a1 w1 df1 hP1 hd1 hs1
    | ret => exact hQ β1 a1 w1 df1 hP1 hd1 hs1
    | exit id' =>
     have : id' ≠ id := fun q => hne (by rw [q])
     simp only [Ex.y0, Exit.inBlock, if_neg this]
     exact hQ β1 a1 w1 df1 hP1 hd1 hs1
   cases e1 with
   | normal => simp only [eA] at hev'; cases hev'; exact fin (fun q => by cases q) rfl rfl rfl rfl
   | ret => simp only [eA] at hev'; cases hev'; exact fin (fun q => by cases q) rfl rfl rfl rfl
   | exit id' =>
    simp only [eA] at hev'
    cases hb : Nat.beq id' id with
    | false =>
     rw [hb] at hev'
     simp only [cond] at hev'
     cases hev'
     exact fin (fun q => by cases q; simp at hb) rfl rfl rfl rfl
    | true =>
     rw [hb] at hev'
     simp only [cond] at hev'
     cases hev'
     have bV : id' = id := Nat.eq_of_beq_eq_true hb
     refine ⟨d1.1, fun β a w df hgb hr hdf hsl hfr ro m hro Q hQ => ?_⟩
     show (Code.block id x).wpIn (W ro) m P Q a w
     refine wpIn_block (Dj.wp (d1.2 β a w df hgb hr hdf hsl hfr ro m hro _ fun β1 a1 w1 df1 hP1 hd1 hs1 => ?_))
     simp only [Ex.y0, Exit.inBlock, if_pos bV]
     exact hQ β1 a1 w1 df1 hP1 hd1 hs1
 | loop x =>
  have jG : dT (ev (cC P) (bW P X) M n) c nt rd (cC P (.loop x)) (ev (cC P) (bW P X) M n c (.code nt rd (cC P x) sl ds) h) = .code e sl' ds' h' → cd dr P ng nt rd (.loop x) c sl ds h e sl' ds' h' := fun hev' => by
   cases hx : ev (cC P) (bW P X) M n c (.code nt rd (cC P x) sl ds) h with
   | bad => rw [hx] at hev'; cases hev'
   | call _ _ => rw [hx] at hev'; cases hev'
   | code e1 sl1 ds1 h1 =>
    rw [hx] at hev'
    have d1 := ihc c nt rd x sl ds h e1 sl1 ds1 h1 hnt hc hw hx
    cases e1 with
    | normal =>
     simp only [dT] at hev'
     exact d1.loop (ihc c nt rd (.loop x) sl1 ds1 h1 e sl' ds' h' hnt (hc.mono d1.1.le) d1.1.wf hev')
    | exit id => simp only [dT] at hev'; cases hev'; exact d1.Eh (fun q => by cases q)
    | ret => simp only [dT] at hev'; cases hev'; exact d1.Eh (fun q => by cases q)
  refine jG (Eq.trans ?_ hev')
  simp only [cC]; rfl
 | exit id =>
  simp only [cC, jj] at hev'
  cases hev'
  exact cd.nothing hw fun r m Q a w hQ => wpIn_exit hQ
 | ret =>
  simp only [cC, jj] at hev'
  cases hev'
  exact cd.nothing hw fun r m Q a w hQ => wpIn_ret hQ
 | label l =>
  simp only [cC, jj] at hev'
  cases hev'
  exact cd.nothing hw fun r m Q a w hQ => wpIn_label hQ
 | _ => simp only [cC, jj] at hev'; cases hev'
theorem Dk {f : Nat} {x : XF} (h : xd P f = some x) : ∃ fn b rs, P.funcs[f]? = some fn ∧ fn.body = some b ∧ fn.results.toList.mapM (Ii P) = some rs ∧ fn.ntmps ≤ 1000000 ∧ x = { nt := fn.ntmps, res := rs, body := cC P b } := by
 unfold xd at h
 rw [Option.bind_eq_some_iff] at h
 obtain ⟨fn, h1, h2⟩ := h
 unfold cF at h2
 simp only [Option.bind_eq_bind, Option.bind_eq_some_iff] at h2
 obtain ⟨b, h3, rs, h4, h5⟩ := h2
 split at h5
 ·rename_i hle
  simp at h5
  exact ⟨fn, b, rs, h1, h3, h4, hle, h5.symm⟩
 ·cases h5
theorem Ei {ih : Runner} {c : C} {f : Nat} {x : XF} {args : List AV} {h : H} {v : AV} {h' : H} (hNG : ∀ (f : Nat) (fn : Func), P.funcs[f]? = some fn → (fn.name == "runtime.NumGoroutine") = false) (ihc : uZ dr P ng ih) (hc : Ctx c h) (hw : WF h) (ht : xd P f = some x)
    (hev' : jF ih c args h (some (.fn x)) = .call v h') : lu dr P ng f args c h v h' := by
 obtain ⟨fn, b, rs, h1, h2, h3, h4, rfl⟩ := Dk ht
 simp only [jF] at hev'
 cases hle : Nat.ble (iG args) fn.ntmps with
 | false => rw [hle] at hev'; cases hev'
 | true =>
  rw [hle] at hev'
  simp only [cond, oM] at hev'
  have hle' : args.length ≤ fn.ntmps := by have := Nat.le_of_ble_eq_true hle; rwa [dw] at this
  cases hx : ih c (.code fn.ntmps false (cC P b) (jW args 0 .nil) []) h with
  | bad => rw [hx] at hev'; cases hev'
  | call _ _ => rw [hx] at hev'; cases hev'
  | code e1 sl1 ds1 h1' =>
   rw [hx] at hev'
   have d := ihc c fn.ntmps false b _ [] h e1 sl1 ds1 h1' h4 hc hw hx
   have main : r7 c ds1 h1' (fun h => mm c h sl1 rs fun vs => oK h vs) = .call v h' → (e1 = .normal ∨ e1 = .ret) → lu dr P ng f args c h v h' := fun hres he => by
    obtain ⟨h2', hres, P5, hn2, hshut⟩ := u7 (P := P) (fun q => by cases q) ds1 h1' _ d.1.wf hres
    obtain ⟨vs, k1, _⟩ := oN (P := P) (df := []) (nt := fn.ntmps) (fun q => by cases q) fn.results.toList rs _ h3 hres
    have hh : h2' = h' := by
     unfold oK at k1
     split at k1 <;> (cases k1; rfl)
    subst hh
    refine ⟨d.1.trans P5, ⟨fn, h1, by rw [h2]; rfl, hNG f fn h1⟩, fun β w cargs hgb hr hv hfr R hR => ?_⟩
    refine (ko (r := none) (n := 0)).1 (callsIn_of_wp_marks h1 h2 trivial (Dj.wp (F := W none) (d.2 β _ w [] hgb hr rfl (Bi hv hle' h4) (fun id q1 q2 => hfr id q1 (by rw [hn2]; exact q2)) none 0 (fun _ => rfl) _ fun β1 a1 w1 df1 hP1 hd1 hs1 => ?_)))
    have leave : LeavesInM (W none) 0 P fn a1.tmps R a1.defers .returning w1 := by
     rw [hs1.defers]
     refine hshut β1 w1 df1 hP1.hr hd1 0 fn a1.tmps R fun w2 hP2 => ?_
     obtain ⟨vs', k1', k2⟩ := oN (P := P) (df := df1) (nt := fn.ntmps) (fun q => by cases q) fn.results.toList rs _ h3 hres
     obtain ⟨us, u1, u2, u3⟩ := k2 β1 a1 w2 hP2.hr hs1
     have hrun := Bj (P := P) u2 u3
     have hvr : VR β1 v (Dl us) := by
      cases vs' with
      | nil =>
       simp only [oK] at k1'
       cases k1'
       simp only [bE] at u1; subst u1
       simp [VR, bE, Dl]
      | cons v1 vs' =>
       cases vs' with
       | nil =>
        simp only [oK] at k1'
        cases k1'
        simp only [bE] at u1
        obtain ⟨u, us', rfl, q1, rfl⟩ := u1
        exact q1
       | cons v2 vs' =>
        simp only [oK] at k1'
        cases k1'
        have u1' := u1
        simp only [bE] at u1
        obtain ⟨u, us', rfl, q1, u2', us'', rfl, q2, q3⟩ := u1
        simp only [VR, Dl]
        exact ⟨_, rfl, by simpa using u1'⟩
     exact ⟨_, hrun, hR β1 _ w2 (hP1.trans hP2) hvr⟩
    rcases he with rfl | rfl
    ·exact leave
    ·exact leave
   cases e1 with
   | normal => exact main hev' (Or.inl rfl)
   | ret => exact main hev' (Or.inr rfl)
   | exit id => cases hev'
theorem FM {n : Nat} (hNG : ∀ (f : Nat) (fn : Func), P.funcs[f]? = some fn → (fn.name == "runtime.NumGoroutine") = false) (hX : wY P X) (hM : dG dr P ng M) (ihc : uZ dr P ng (ev (cC P) (bW P X) M n)) : jV dr P ng (gm (ev (cC P) (bW P X) M (n + 1))) := by
 intro f args c h v h' hc hw hcall
 unfold gm at hcall
 have hev : ev (cC P) (bW P X) M (n + 1) c (.call f args) h = .call v h' := by
  cases hx : ev (cC P) (bW P X) M (n + 1) c (.call f args) h with
  | bad => rw [hx] at hcall; cases hcall
  | code _ _ _ _ => rw [hx] at hcall; cases hcall
  | call v1 h1 => rw [hx] at hcall; cases hcall; rfl
 cases f with
 | B0 id =>
  have hev' : lr.bad = .call v h' := hev
  cases hev'
 | Kx f =>
  have hev' : (match bW P X f with | some (.fn x) => jF (ev (cC P) (bW P X) M n) c args h (some (.fn x)) | _ => .bad) = .call v h' := hev
  split at hev'
  ·rename_i x ht
   unfold bW at ht
   split at ht
   ·cases ht
   ·simp only [Option.map_eq_some_iff] at ht
    obtain ⟨x', h1, h2⟩ := ht
    cases h2
    exact Ei hNG ihc hc hw h1 hev'
  ·cases hev'
 | fn f =>
  show uY dr P ng (.fn f) args c h v h'
  have hev0 : (match M f args c h with | some r => lr.call r.1 r.2 | none => jF (ev (cC P) (bW P X) M n) c args h (bW P X f)) = .call v h' := hev
  cases hmm : M f args c h with
  | some r =>
   rw [hmm] at hev0
   cases hev0
   exact hM f args c h r.1 r.2 hmm hc hw
  | none =>
  rw [hmm] at hev0
  have hev' : jF (ev (cC P) (bW P X) M n) c args h (bW P X f) = .call v h' := hev0
  cases hx : AY X f with
  | some g =>
   have ht : bW P X f = some (.ext g) := by unfold bW; rw [hx]
   rw [ht] at hev'
   simp only [jF] at hev'
   split at hev'
   ·rename_i v1 hg
    cases hev'
    refine ⟨Step.refl hw, fun β w cargs hgb hr hv hfr S hS r n o a K Q hK => ?_⟩
    have hS' : S = callFunc f cargs.toArray := hS
    subst hS'
    obtain ⟨u, q1, q2⟩ := hX f g hx args v hg β cargs w hv
    rw [q1, Oper.uponIn_value]
    exact hK β u w (cI.refl hr) q2
   ·cases hev'
  | none =>
   have ht : bW P X f = (xd P f).map .fn := by unfold bW; rw [hx]
   rw [ht] at hev'
   cases hf : xd P f with
   | none => rw [hf] at hev'; cases hev'
   | some x =>
    rw [hf] at hev'
    exact (Ei hNG ihc hc hw hf hev').up
theorem Bk (hmx : P.follows .mixedOrders = true) (hO : FK dr P ng) (hng : P.globals.size ≤ ng) (hNG : ∀ (f : Nat) (fn : Func), P.funcs[f]? = some fn → (fn.name == "runtime.NumGoroutine") = false) (hX : wY P X) (hM : dG dr P ng M) : ∀ n, uZ dr P ng (ev (cC P) (bW P X) M n) ∧ jV dr P ng (gm (ev (cC P) (bW P X) M n))
 | 0 => ⟨fun c nt rd code sl ds h e sl' ds' h' _ _ _ q => (by cases q), fun f args c h v h' _ _ q => (by cases q)⟩
 | n + 1 =>
  have ih := Bk hmx hO hng hNG hX hM n
  ⟨FJ hmx hO hng ih.1 ih.2, FM hNG hX hM ih.1⟩
theorem dG.nil : dG dr P ng (xc []) := fun f args c h v h' q => by cases q
theorem dG.no : dG dr P ng PU := fun f args c h v h' q => by cases q
theorem dG.cons {m : Df} {ms : List Df} (h1 : dG dr P ng (xc [m])) (h2 : dG dr P ng (xc ms)) : dG dr P ng (xc (m :: ms)) := fun f args c h v h' q hc hw => by
 unfold xc yU at q
 cases hh : Qq m f args c h with
 | true =>
  rw [hh] at q
  exact h1 f args c h v h' (by unfold xc yU; rw [hh]; exact q) hc hw
 | false =>
  rw [hh] at q
  exact h2 f args c h v h' q hc hw
end
def dq (dr : Prop) (P : Program) (ng : Nat) (o : Oper) (c : C) (sl : Tr AV) (h : H) (k : dH) (r : Tr AV × H) : Prop := ∃ v h', k v h' = some r ∧ qc dr P ng o c sl h v h'
section
variable {P : Program} {ng : Nat} {o : Oper} {c : C} {call : ez} {sl : Tr AV} {h : H} {k : dH} {r : Tr AV × H}
theorem vm {a b : IntKind} (h : fD a b = true) : a = b := by simpa [fD] using h
theorem F4 {f : IntKind → Int → Int → H → dH → Out} {x y : XV} (e : ints f x y c call sl h k = some r) : ∃ p a b, bR sl x = .int p a ∧ bR sl y = .int p b ∧ f p a b h k = some r := by
 unfold ints at e
 split at e
 ·rename_i p a q b h1 h2
  cases hb : fD p q with
  | false => rw [hb] at e; cases e
  | true =>
   rw [hb] at e
   have := vm hb
   subst this
   exact ⟨p, a, b, h1, h2, e⟩
 ·cases e
def ft (P : Program) (op : BinOp) (t : TypeId) (f : IntKind → Int → Int → H → dH → Out) : Prop := ∀ p a b (h : H) (k : dH) (r : Tr AV × H), f p a b h k = some r → ∃ v, k v h = some r ∧ ∀ w : World, ∃ u, (binOp op t (.int p a) (.int p b)).run P w = .ok u w ∧ ∀ β, VR β v u
theorem gv {op : BinOp} {t t' : TypeId} {y z : Operand} {xy xz : XV} {f : IntKind → Int → Int → H → dH → Out} (ho : o.op = .binOp op t y z t') (hy : cV y = some xy) (hz : cV z = some xz) (hg : op ≠ .eql ∧ op ≠ .neq) (hw : WF h)
    (hf : ft P op t f) (e : ints f xy xz c call sl h k = some r) : dq dr P ng o c sl h k r := by
 obtain ⟨p, a, b, h1, h2, e⟩ := F4 e
 obtain ⟨v, k1, k2⟩ := hf p a b h k r e
 exact ⟨v, h, k1, Iq ho hy hz h1 h2 hg hw k2⟩
theorem IJ {t : TypeId} : ft P .add t HZ := fun p a b h k r e => by
 have h2 := rn e
 exact ⟨.int p (p.wrap (a + b)), h2, fun w => ⟨.int p (p.wrap (a + b)), by simp [binOp, Op.intArith], fun β => by simp [VR]⟩⟩
theorem IK {t : TypeId} : ft P .sub t H0 := fun p a b h k r e => by
 have h2 := rn e
 exact ⟨.int p (p.wrap (a - b)), h2, fun w => ⟨.int p (p.wrap (a - b)), by simp [binOp, Op.intArith], fun β => by simp [VR]⟩⟩
theorem IL {t : TypeId} : ft P .mul t KH := fun p a b h k r e => by
 have h2 := rn e
 exact ⟨.int p (p.wrap (a * b)), h2, fun w => ⟨.int p (p.wrap (a * b)), by simp [binOp, Op.intArith], fun β => by simp [VR]⟩⟩
theorem IM {t : TypeId} : ft P .quo t KI := fun p a b h k r e => by
 unfold KI at e
 cases hb : JR b 0 with
 | true => rw [hb] at e; cases e
 | false =>
  rw [hb] at e
  rw [rv, decide_eq_false_iff_not] at hb
  obtain ⟨h1, h2⟩ := mQ e
  exact ⟨.int p (a.tdiv b), h2, fun w => ⟨.int p (a.tdiv b), by simp [binOp, Op.intDiv, hb, h1], fun β => by simp [VR]⟩⟩
theorem IP {t : TypeId} : ft P .rem t KJ := fun p a b h k r e => by
 unfold KJ at e
 cases hb : JR b 0 with
 | true => rw [hb] at e; cases e
 | false =>
  rw [hb] at e
  rw [rv, decide_eq_false_iff_not] at hb
  obtain ⟨h1, h2⟩ := mQ e
  exact ⟨.int p (a.tmod b), h2, fun w => ⟨.int p (a.tmod b), by simp [binOp, Op.intDiv, hb], fun β => by simp [VR]⟩⟩
theorem IQ {t : TypeId} : ft P .lss t H2 := fun p a b h k r e =>
 ⟨_, fF e, fun w => ⟨.bool (GM a b), by simp [binOp, Op.intCmp, iA], fun β => by simp [VR]⟩⟩
theorem IS {t : TypeId} : ft P .leq t H3 := fun p a b h k r e =>
 ⟨_, fF e, fun w => ⟨.bool (!GM b a), by simp [binOp, Op.intCmp, iA]; rw [Bool.eq_iff_iff]; simp, fun β => by simp [VR]⟩⟩
theorem IT {t : TypeId} : ft P .gtr t H4 := fun p a b h k r e =>
 ⟨_, fF e, fun w => ⟨.bool (GM b a), by simp [binOp, Op.intCmp, iA], fun β => by simp [VR]⟩⟩
theorem IU {t : TypeId} : ft P .geq t H5 := fun p a b h k r e =>
 ⟨_, fF e, fun w => ⟨.bool (!GM a b), by simp [binOp, Op.intCmp, iA]; rw [Bool.eq_iff_iff]; simp, fun β => by simp [VR]⟩⟩
theorem Es {op : BinOp} {t t' : TypeId} {y z : Operand} {xy xz : XV} {v : AV} (ho : o.op = .binOp op t y z t') (hy : cV y = some xy) (hz : cV z = some xz) (hw : WF h)
    (hrun : ∀ β (w : World) u u', VR β (bR sl xy) u → VR β (bR sl xz) u' → (eqGuard op t y z u u').run P w = .ok () w ∧ ∃ q, (binOp op t u u').run P w = .ok q w ∧ VR β v q) : qc dr P ng o c sl h v h := by
 refine ba hw fun β a w hr hop => ?_
 obtain ⟨h1, q, h2, h3⟩ := hrun β w (a.eval y) (a.eval z) (hop y (by simp [ho, Op.operands]) xy hy) (hop z (by simp [ho, Op.operands]) xz hz)
 exact ⟨q, by simp [execOp, ho, h1, h2], h3⟩
/-! strings -/
theorem xm {op : BinOp} {t : TypeId} {y z : Operand} {a b : ByteArray} (w : World) : (eqGuard op t y z (.string a) (.string b)).run P w = .ok () w := by
 cases op <;> simp [eqGuard]
theorem toNat_inj : ∀ (l m : List UInt8), l.map UInt8.toNat = m.map UInt8.toNat → l = m
 | [], [], _ => rfl
 | [], _ :: _, h => by simp at h
 | _ :: _, [], h => by simp at h
 | a :: l, b :: m, h => by
  simp only [List.map_cons, List.cons.injEq] at h
  rw [UInt8.toNat_inj.1 h.1, toNat_inj l m h.2]
theorem kr (l m : List UInt8) : GK (l.map UInt8.toNat) (m.map UInt8.toNat) = (l == m) := by
 rw [mz, Bool.eq_iff_iff, decide_eq_true_eq, beq_iff_eq]
 exact ⟨toNat_inj l m, fun e => by rw [e]⟩
theorem mT : ∀ (l m : List UInt8), JP (l.map UInt8.toNat) (m.map UInt8.toNat) = Op.bytesLess l m
 | [], [] => rfl
 | _ :: _, [] => rfl
 | [], _ :: _ => rfl
 | a :: l, b :: m => by
  simp only [List.map_cons, JP, Op.bytesLess]
  rw [mT l m, mS]
  by_cases h1 : a < b
  ·have : a.toNat < b.toNat := UInt8.lt_iff_toNat_lt.1 h1
   simp [h1, this, Nat.blt_eq]
  ·have h2 : ¬ a.toNat < b.toNat := fun x => h1 (UInt8.lt_iff_toNat_lt.2 x)
   have h3 : Nat.blt a.toNat b.toNat = false := by
    cases hb : Nat.blt a.toNat b.toNat with
    | false => rfl
    | true => exact absurd (by simpa [Nat.blt_eq] using hb) h2
   rw [h3]
   by_cases h4 : a = b
   ·subst h4; simp
   ·have h5 : a.toNat ≠ b.toNat := fun x => h4 (UInt8.toNat_inj.1 x)
    simp [h1, h4, h5]
theorem y9 {op : BinOp} {f : List Nat → List Nat → Bool} {t t' : TypeId} {y z : Operand} {xy xz : XV} (ho : o.op = .binOp op t y z t') (hy : cV y = some xy) (hz : cV z = some xz) (hw : WF h)
    (hf : ∀ (w : World) (a b : ByteArray), (binOp op t (.string a) (.string b)).run P w = .ok (.bool (f (a.data.toList.map UInt8.toNat) (b.data.toList.map UInt8.toNat))) w) (e : r6 f xy xz c call sl h k = some r) : dq dr P ng o c sl h k r := by
 unfold r6 at e
 split at e
 ·rename_i a b h1 h2
  refine ⟨_, h, fF e, Es ho hy hz hw fun β w u u' k1 k2 => ?_⟩
  rw [h1] at k1; rw [h2] at k2
  simp only [VR] at k1 k2
  obtain ⟨x, rfl, hx⟩ := k1
  obtain ⟨x', rfl, hx'⟩ := k2
  refine ⟨xm w, _, hf w x x', ?_⟩
  rw [hx, hx']; simp [VR]
 ·cases e
theorem K7 {t : TypeId} (w : World) (a b : ByteArray) : (binOp .lss t (.string a) (.string b)).run P w = .ok (.bool (KK (a.data.toList.map UInt8.toNat) (b.data.toList.map UInt8.toNat))) w := by
 simp only [binOp, Op.stringOp, KK, mT, ByteArray.toList_eq, Sem.run_pure]
theorem K8 {t : TypeId} (w : World) (a b : ByteArray) : (binOp .gtr t (.string a) (.string b)).run P w = .ok (.bool (KL (a.data.toList.map UInt8.toNat) (b.data.toList.map UInt8.toNat))) w := by
 simp only [binOp, Op.stringOp, KL, mT, kr, ByteArray.toList_eq, Sem.run_pure]
theorem K9 {t : TypeId} (w : World) (a b : ByteArray) : (binOp .geq t (.string a) (.string b)).run P w = .ok (.bool (KM (a.data.toList.map UInt8.toNat) (b.data.toList.map UInt8.toNat))) w := by
 simp only [binOp, Op.stringOp, KM, mT, ByteArray.toList_eq, Sem.run_pure]
/-! equality -/
def N3 (P : Program) (t : TypeId) (eq : iH) : Prop := ∀ β x y u u' b, eq x y = some b → VR β x u → VR β y u' → ∀ (w : World), (∀ op a a', (eqGuard op t a a' u u').run P w = .ok () w) ∧ (binOp .eql t u u').run P w = .ok (.bool b) w ∧ (binOp .neq t u u').run P w = .ok (.bool (!b)) w
theorem k8 {x y : AV} {b : Bool} (e : r5 x y = some b) : ∃ p m n, x = .int p m ∧ y = .int p n ∧ b = (m == n) := by
 unfold r5 at e
 split at e
 ·rename_i p m q n
  cases hb : fD p q with
  | false => rw [hb] at e; cases e
  | true =>
   rw [hb] at e
   have := vm hb
   subst this
   simp only [cond, Option.some.injEq] at e
   refine ⟨p, m, n, rfl, rfl, ?_⟩
   rw [← e, rv, Bool.eq_iff_iff]; simp
 ·cases e
theorem k9 {x y : AV} {b : Bool} (e : eqStr x y = some b) : ∃ s s', x = .str s ∧ y = .str s' ∧ b = GK s s' := by
 unfold eqStr at e
 split at e
 ·simp only [Option.some.injEq] at e
  exact ⟨_, _, rfl, rfl, e.symm⟩
 ·cases e
theorem mU {x y : AV} {b : Bool} (e : HX x y = some b) : ∃ s s', x = .bool s ∧ y = .bool s' ∧ b = (s == s') := by
 unfold HX at e
 split at e
 ·simp only [Option.some.injEq] at e
  exact ⟨_, _, rfl, rfl, e.symm⟩
 ·cases e
theorem gQ {t : TypeId} {eq : iH} (h : Bf P t = some eq) : (∃ k, P.underlying t = some (.int k) ∧ eq = r5) ∨ (P.underlying t = some .string ∧ eq = eqStr) ∨ (P.underlying t = some .bool ∧ eq = HX) := by
 unfold Bf at h
 split at h
 ·rename_i k hk; cases h; exact Or.inl ⟨k, hk, rfl⟩
 ·rename_i hk; cases h; exact Or.inr (Or.inl ⟨hk, rfl⟩)
 ·rename_i hk; cases h; exact Or.inr (Or.inr ⟨hk, rfl⟩)
 ·cases h
theorem vn {t : TypeId} {eq : iH} (h : Bf P t = some eq) {β : cn} {x y : AV} {u u' : Value} {b : Bool} (e : eq x y = some b) (hx : VR β x u) (hy : VR β y u') (d : Nat) (w : World) : (Op.equalIn (d + 1) t u u').run P w = .ok b w := by
 rcases gQ h with ⟨k, hk, rfl⟩ | ⟨hk, rfl⟩ | ⟨hk, rfl⟩
 ·obtain ⟨p, m, n, rfl, rfl, rfl⟩ := k8 e
  simp only [VR] at hx hy; subst hx hy
  exact run_equalIn_int w d t p k m n hk
 ·obtain ⟨s, s', rfl, rfl, rfl⟩ := k9 e
  simp only [VR] at hx hy
  obtain ⟨q, rfl, rfl⟩ := hx
  obtain ⟨q', rfl, rfl⟩ := hy
  rw [run_equalIn_string w d t q q' hk, kr, ByteArray.toList_eq, ByteArray.toList_eq]
 ·obtain ⟨s, s', rfl, rfl, rfl⟩ := mU e
  simp only [VR] at hx hy; subst hx hy
  exact run_equalIn_bool w d t s s' hk
theorem N4 {t : TypeId} {eq : iH} (h : Bf P t = some eq) : N3 P t eq := fun β x y u u' b e hx hy w => by
 have hin := vn h e hx hy 9999 w
 rcases gQ h with ⟨k, hk, rfl⟩ | ⟨hk, rfl⟩ | ⟨hk, rfl⟩
 ·obtain ⟨p, m, n, rfl, rfl, rfl⟩ := k8 e
  simp only [VR] at hx hy; subst hx hy
  exact ⟨fun op a a' => by cases op <;> simp [eqGuard], by simp [binOp, Op.intCmp], by simp [binOp, Op.intCmp, bne]⟩
 ·obtain ⟨s, s', rfl, rfl, rfl⟩ := k9 e
  simp only [VR] at hx hy
  obtain ⟨q, rfl, rfl⟩ := hx
  obtain ⟨q', rfl, rfl⟩ := hy
  refine ⟨fun op a a' => xm w, ?_, ?_⟩
  ·simp only [binOp, Op.stringOp, kr, ByteArray.toList_eq, Sem.run_pure]
  ·simp only [binOp, Op.stringOp, kr, ByteArray.toList_eq, Sem.run_pure]
 ·obtain ⟨s, s', rfl, rfl, rfl⟩ := mU e
  simp only [VR] at hx hy; subst hx hy
  have hin' : (Op.equal t (.bool s) (.bool s')).run P w = .ok (s == s') w := hin
  exact ⟨fun op a a' => by cases op <;> simp [eqGuard], by simp [binOp, hin'], by simp [binOp, hin']⟩
theorem la {t : TypeId} {eq : iH} (h : Bf P t = some eq) (w : World) : (isAgg t).run P w = .ok false w := by
 rcases gQ h with ⟨k, hk, _⟩ | ⟨hk, _⟩ | ⟨hk, _⟩ <;> simp [isAgg, run_underlying hk]
theorem drop_cons {α : Type} {l : List α} {i : Nat} {x : α} {m : List α} (h : l.drop i = x :: m) : l[i]? = some x ∧ l.drop (i + 1) = m := by
 have h1 : (l.drop i)[0]? = some x := by rw [h]; rfl
 have h2 : (l.drop i).drop 1 = m := by rw [h]; rfl
 rw [List.getElem?_drop, Nat.add_zero] at h1
 rw [List.drop_drop] at h2
 exact ⟨h1, h2⟩
theorem oQ {β : cn} {xs ys : List AV} {cs ds : Array Value} (hx : bE β xs cs.toList) (hy : bE β ys ds.toList) (d : Nat) (w : World) : ∀ (fs : List Field) (i : Nat) (eqs : List iH) (b : Bool), gn P i fs = some eqs → fS eqs (xs.drop i) (ys.drop i) = some b →
    (Op.eqFields (d + 1) cs ds fs).run P w = .ok b w
 | [], i, eqs, b, h, e => by
  simp only [gn, Option.some.injEq] at h
  subst h
  unfold fS at e
  split at e
  ·simp only [Option.some.injEq] at e; subst e; simp [Op.eqFields]
  ·rename_i hh _ _; cases hh
  ·cases e
 | f :: fs, i, eqs, b, h, e => by
  unfold gn at h
  split at h
  ·rename_i hf
   obtain ⟨hoff, hname⟩ := hf
   simp only [Option.bind_eq_bind, Option.bind_eq_some_iff, Option.pure_def, Option.some.injEq] at h
   obtain ⟨g, hg, gs, hgs, rfl⟩ := h
   cases hx1 : xs.drop i with
   | nil => rw [hx1] at e; simp [fS] at e
   | cons x xs' =>
    cases hy1 : ys.drop i with
    | nil => rw [hx1, hy1] at e; simp [fS] at e
    | cons y ys' =>
     rw [hx1, hy1] at e
     obtain ⟨p1, p2⟩ := drop_cons hx1
     obtain ⟨q1, q2⟩ := drop_cons hy1
     obtain ⟨u, u1, u2⟩ := hx.get p1
     obtain ⟨u', u1', u2'⟩ := hy.get q1
     have a1 : cs[i]? = some u := by simpa using u1
     have a2 : ds[i]? = some u' := by simpa using u1'
     simp only [fS] at e
     cases hb : g x y with
     | none => rw [hb] at e; cases e
     | some b1 =>
      rw [hb] at e
      have hin := vn hg hb u2 u2' d w
      cases b1 with
      | false =>
       simp only [Option.some.injEq] at e; subst e
       simp [Op.eqFields, hname, part, la hg, hoff, a1, a2, hin]
      | true =>
       simp only at e
       rw [← p2, ← q2] at e
       have ih := oQ hx hy d w fs (i + 1) gs b hgs e
       simp [Op.eqFields, hname, part, la hg, hoff, a1, a2, hin, ih]
  ·cases h
theorem N5 {t : TypeId} {eq : iH} (h : JS P t = some eq) : N3 P t eq := by
 unfold JS at h
 split at h
 ·rename_i fs hu
  split at h
  ·rename_i hh
   simp only [Option.map_eq_some_iff] at h
   obtain ⟨eqs, h1, rfl⟩ := h
   intro β x y u u' b e hx hy w
   unfold tc at e
   split at e
   ·rename_i xs ys
    simp only [VR] at hx hy
    obtain ⟨cs, rfl, hcs⟩ := hx
    obtain ⟨ds, rfl, hds⟩ := hy
    have hfo : P.fieldsOf t = fs := by unfold Program.fieldsOf; rw [hu]
    have hrun := oQ hcs hds 9998 w fs.toList 0 eqs b h1 (by simpa using e)
    have hin := run_equalIn_struct w 9999 t cs ds (by rw [hfo]; exact hu) hh.1
    rw [hfo] at hin
    have hin' : (Op.equalIn 10000 t (.agg cs) (.agg ds)).run P w = .ok b w := hin.trans hrun
    exact ⟨fun op a a' => run_eqGuard_agg w op t a a' cs ds hh.2, by rw [run_eql_struct, hin']; rfl, by rw [run_neq_struct, hin']; rfl⟩
   ·cases e
  ·cases h
 ·exact N4 h
theorem N6 {op : BinOp} {neg : Bool} {eq : iH} {t t' : TypeId} {y z : Operand} {xy xz : XV} (ho : o.op = .binOp op t y z t') (hop : (op = .eql ∧ neg = false) ∨ (op = .neq ∧ neg = true)) (hy : cV y = some xy) (hz : cV z = some xz) (hw : WF h) (heq : N3 P t eq)
    (e : H6 eq neg xy xz c call sl h k = some r) : dq dr P ng o c sl h k r := by
 unfold H6 at e
 split at e
 ·rename_i b hb
  refine ⟨_, h, fF e, Es ho hy hz hw fun β w u u' k1 k2 => ?_⟩
  obtain ⟨h1, h2, h3⟩ := heq β _ _ u u' b hb k1 k2 w
  rcases hop with ⟨rfl, rfl⟩ | ⟨rfl, rfl⟩
  ·exact ⟨h1 _ _ _, _, h2, by cases b <;> simp [VR]⟩
  ·exact ⟨h1 _ _ _, _, h3, by cases b <;> simp [VR]⟩
 ·cases e
end
end
end Go.Proofs.YtgaihilgffficaaGreatDoor.Ev
