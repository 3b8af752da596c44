/- The evaluator: ranges over maps; soundness. -/
import Derived.Test.YtmdceifbbmnfgaaGreatDoorEvQ
import Derived.Maps.RangeRun
set_option linter.unusedVariables false
set_option linter.unusedSimpArgs false
namespace Go.Proofs.YtmdceifbbmnfgaaGreatDoor.Ev
open Go
open Go.ChangeMaps (setBlock)
/-! back to the elder names -/
mutual
theorem VR.back {β β' : Bet} (h : Sub β β') : ∀ (v : AV) (c0 c : Value), VR β v c0 → VR β' v c → VR β v c
 | .bool b, c0, c, _, e => by simpa [VR] using e
 | .int k n, c0, c, _, e => by simpa [VR] using e
 | .str s, c0, c, _, e => by simpa [VR] using e
 | .nilp, c0, c, _, e => by simpa [VR] using e
 | .ptr id off, c0, c, e0, e => by
  simp only [VR] at e0 e ⊢
  obtain ⟨L0, h1, _⟩ := e0
  obtain ⟨L, h2, h3⟩ := e
  rw [h _ _ h1] at h2; cases h2
  exact ⟨L0, h1, h3⟩
 | .nils, c0, c, _, e => by simpa [VR] using e
 | .sl id off len esz cap, c0, c, e0, e => by
  simp only [VR] at e0 e ⊢
  obtain ⟨L0, _, _, h1, _⟩ := e0
  obtain ⟨L, o, cp, h2, h3⟩ := e
  rw [h _ _ h1] at h2; cases h2
  exact ⟨L0, o, cp, h1, h3⟩
 | .nilm, c0, c, _, e => by simpa [VR] using e
 | .mp id, c0, c, e0, e => by
  simp only [VR] at e0 e ⊢
  obtain ⟨L0, h1, _⟩ := e0
  obtain ⟨L, h2, h3⟩ := e
  rw [h _ _ h1] at h2; cases h2
  exact ⟨L0, h1, h3⟩
 | .nilf, c0, c, _, e => by simpa [VR] using e
 | .fn f caps, c0, c, e0, e => by
  simp only [VR] at e0 e ⊢
  obtain ⟨cs0, _, h1⟩ := e0
  obtain ⟨cs, h2, h3⟩ := e
  exact ⟨cs, h2, VRs.back h _ _ _ h1 h3⟩
 | .fnb f first caps, c0, c, e0, e => by
  simp only [VR] at e0 e ⊢
  obtain ⟨fs0, cs0, _, h0, h1⟩ := e0
  obtain ⟨fs, cs, h2, h3, h4⟩ := e
  exact ⟨fs, cs, h2, VRs.back h _ _ _ h0 h3, VRs.back h _ _ _ h1 h4⟩
 | .nili, c0, c, _, e => by simpa [VR] using e
 | .iface t x, c0, c, e0, e => by
  simp only [VR] at e0 e ⊢
  obtain ⟨c1, _, h1⟩ := e0
  obtain ⟨c2, h2, h3⟩ := e
  exact ⟨c2, h2, VR.back h _ _ _ h1 h3⟩
 | .yld id, c0, c, e0, e => by
  simp only [VR] at e0 e ⊢
  obtain ⟨L0, h1, _⟩ := e0
  obtain ⟨L, h2, h3⟩ := e
  rw [h _ _ h1] at h2; cases h2
  exact ⟨L0, h1, h3⟩
 | .agg vs, c0, c, e0, e => by
  simp only [VR] at e0 e ⊢
  obtain ⟨cs0, _, h1⟩ := e0
  obtain ⟨cs, h2, h3⟩ := e
  exact ⟨cs, h2, VRs.back h _ _ _ h1 h3⟩
 | .tup vs, c0, c, e0, e => by
  simp only [VR] at e0 e ⊢
  obtain ⟨cs0, _, h1⟩ := e0
  obtain ⟨cs, h2, h3⟩ := e
  exact ⟨cs, h2, VRs.back h _ _ _ h1 h3⟩
 | .raw oa n cp, c0, c, _, e => by simpa [VR] using e
 | .var id, c0, c, e0, e => by
  simp only [VR] at e0 e ⊢
  obtain ⟨L0, h1, _⟩ := e0
  obtain ⟨L, h2, h3⟩ := e
  rw [h _ _ h1] at h2; cases h2
  exact ⟨L0, h1, h3⟩
 | .top, c0, c, _, e => by simp [VR]
theorem VRs.back {β β' : Bet} (h : Sub β β') : ∀ (vs : List AV) (c0 c : List Value), VRs β vs c0 → VRs β' vs c → VRs β vs c
 | [], c0, c, _, e => by simpa [VRs] using e
 | v :: vs, c0, c, e0, e => by
  simp only [VRs] at e0 e ⊢
  obtain ⟨u0, us0, _, a1, a2⟩ := e0
  obtain ⟨u, us, b0, b1, b2⟩ := e
  exact ⟨u, us, b0, VR.back h _ _ _ a1 b1, VRs.back h _ _ _ a2 b2⟩
end
/-! the parts of the check -/
theorem bornLt_some {n : Nat} : ∀ {es : List (AV × AV × Nat)}, bornLt n es = true → ∀ e ∈ es, e.2.2 < n
 | [], _, d, hd => by cases hd
 | x :: D, h, d, hd => by
  unfold bornLt at h
  rw [Bool.and_eq_true] at h
  rcases List.mem_cons.1 hd with rfl | hd
  ·simpa [Nat.blt_eq] using h.1
  ·exact bornLt_some h.2 d hd
theorem view_iff {c : C} {h : H} {id : Nat} {b : AB} : view c h id = some b ↔ Tr.get h.t id = some b ∧ seen c.vis id = true ∧ b ≠ .dead := by
 constructor
 ·intro q
  obtain ⟨q1, q2⟩ := getB_view q
  refine ⟨q1, q2, fun e => ?_⟩
  subst e
  have hg : getB c h id = some .dead := by unfold getB; rw [q2]; exact q1
  unfold view at q
  rw [hg] at q
  cases q
 ·rintro ⟨q1, q2, q3⟩
  exact view_live (by unfold getB; rw [q2]; exact q1) q3
section
variable {P : Program} {ng : Nat}
variable {c : C} {nt : Nat} {rd : Bool} {ih : Runner} {x t u : Nat} {b' : XC} {sl : Tr AV} {h : H} {it m since clock : Nat} {es : List (AV × AV × Nat)} {F k N : Nat} {own : List Own} {D : List Nat}
end
theorem rngOf_spec {y : Code} {x t u id : Nat} (h : rngOf y = some (x, t, u, id)) : ∃ i o o' z, y = .seq (.region i #[o, o'] false) (.seq (.cond (.tmp u) .skip (.exit id)) z) ∧ o.op = .next (.tmp x) false ∧ o.dst = some t ∧ o.guard = none ∧ o'.op = .extract (.tmp t) 0 ∧ o'.dst = some u ∧ o'.guard = none := by
 unfold rngOf at h
 split at h
 ·rename_i i ops u' id' z
  split at h
  ·rename_i o o' hops
   split at h
   ·rename_i x1 t1 t2 u2 e1 e2 e3 e4 e5 e6
    cases hb : (Nat.beq t1 t2 && Nat.beq u' u2) with
    | false => rw [hb] at h; cases h
    | true =>
     rw [hb] at h
     rw [Bool.and_eq_true] at hb
     have k1 := Nat.eq_of_beq_eq_true hb.1
     have k2 := Nat.eq_of_beq_eq_true hb.2
     cases h
     subst k1 k2
     have : ops = #[o, o'] := by apply Array.ext'; exact hops
     subst this
     exact ⟨i, o, o', z, rfl, e1, e2, e3, e4, e5, e6⟩
   ·cases h
  ·cases h
 ·cases h
theorem er_mem {β : Bet} : ∀ {es : List (AV × AV × Nat)} {ces : List MapEntry}, ER β es ces → ∀ ce ∈ ces, ∃ e ∈ es, VR β e.1 ce.key ∧ VR β e.2.1 ce.val ∧ ce.born = e.2.2
 | [], ces, h, ce, hc => by
  have : ces = [] := h
  subst this; cases hc
 | x :: xs, ces, h, ce, hc => by
  obtain ⟨c0, ces', rfl, h1, h2, h3, h4⟩ := h
  rcases List.mem_cons.1 hc with rfl | hc
  ·exact ⟨x, by simp, h1, h2, h3⟩
  ·obtain ⟨e, k1, k2⟩ := er_mem h4 ce hc
   exact ⟨e, by simp [k1], k2⟩
theorem er_mem' {β : Bet} : ∀ {es : List (AV × AV × Nat)} {ces : List MapEntry}, ER β es ces → ∀ e ∈ es, ∃ ce ∈ ces, ce.born = e.2.2
 | [], ces, h, ce, hc => by cases hc
 | x :: xs, ces, h, e, hc => by
  obtain ⟨c0, ces', rfl, h1, h2, h3, h4⟩ := h
  rcases List.mem_cons.1 hc with rfl | hc
  ·exact ⟨c0, by simp, h3⟩
  ·obtain ⟨ce, k1, k2⟩ := er_mem' h4 e hc
   exact ⟨ce, by simp [k1], k2⟩
section
variable {P : Program} {ng : Nat}
variable {c : C} {nt : Nat} {rd : Bool} {ih : Runner} {x t u id : Nat} {b' : XC} {sl : Tr AV} {h : H} {it m since clock : Nat} {es : List (AV × AV × Nat)} {F k N : Nat} {own : List Own} {D : List Nat}
end
end Go.Proofs.YtmdceifbbmnfgaaGreatDoor.Ev
namespace Go.Proofs.YtmdceifbbmnfgaaGreatDoor.Ev
open Go
section
variable {P : Program} {ng : Nat} {X : Exts} {M : Mf}
def MemoOk (P : Program) (ng : Nat) (M : Mf) : Prop := ∀ f args c h v h', M f args c h = some (v, h') → Ctx c h → WF h → UpDid P ng (.fn f) args c h v h'
theorem code_next {n : Nat} (hmx : P.follows .mixedOrders = true) (hO : OpOk P ng) (hng : P.globals.size ≤ ng) (ihc : CodeOk P ng (ev (cC P) (tblX P X) M n)) (ihf : CallOk P ng (callOf (ev (cC P) (tblX P X) M n))) : CodeOk P ng (ev (cC P) (tblX P X) M (n + 1)) := by
 intro c nt rd code sl ds h e sl' ds' h' hnt hc hw hev
 have hev' : stepC (ev (cC P) (tblX P X) M n) c nt rd (cC P code) sl ds h = .code e sl' ds' h' := hev
 cases code with
 | skip =>
  simp only [cC, stepC] at hev'
  cases hev'
  exact CodeDid.nothing hw fun r m Q a w hQ => wpIn_skip hQ
 | region id ops draws =>
  cases draws with
  | false =>
   simp only [cC, stepC] at hev'
   obtain ⟨rfl, rfl, e1⟩ := outRes_some hev'
   exact reg_sound hO ihf hng hnt hw hc e1
  | true =>
   simp only [cC] at hev'
   cases hok : okD ops (Region.before ops) with
   | false => rw [hok] at hev'; simp only [cond, stepC] at hev'; cases hev'
   | true =>
    rw [hok] at hev'
    simp only [cond, stepC] at hev'
    obtain ⟨rfl, rfl, e1⟩ := outRes_some hev'
    exact dreg_sound hmx hO ihf hng hnt hok hw hc e1
 | seq x y =>
  simp only [cC, stepC] at hev'
  cases hx : ev (cC P) (tblX P X) M n c (.code nt rd (cC P x) sl ds) h with
  | bad => rw [hx] at hev'; cases hev'
  | call _ _ => rw [hx] at hev'; cases hev'
  | code e1 sl1 ds1 h1 =>
   rw [hx] at hev'
   have d1 := ihc c nt rd x sl ds h e1 sl1 ds1 h1 hnt hc hw hx
   cases e1 with
   | normal =>
    simp only [seqRes] at hev'
    exact d1.seq (ihc c nt rd y sl1 ds1 h1 e sl' ds' h' hnt (hc.mono d1.1.le) d1.1.wf hev')
   | exit id => simp only [seqRes] at hev'; cases hev'; exact d1.seqOut (fun q => by cases q)
   | ret => simp only [seqRes] at hev'; cases hev'; exact d1.seqOut (fun q => by cases q)
 | cond v x y =>
  simp only [cC] at hev'
  cases hv : cV v with
  | none => rw [hv] at hev'; simp only [stepC] at hev'; cases hev'
  | some xv =>
   rw [hv] at hev'
   cases hg : gOk P v with
   | false => rw [hg] at hev'; simp only [stepC] at hev'; cases hev'
   | true =>
    rw [hg] at hev'
    simp only [stepC] at hev'
    have key : ∀ (β : Bet) (a : Act) df, GB ng β → SlR nt df β sl a → VR β (evV sl xv) (a.eval v) := fun β a df hgb hsl =>
     opsR_of (P := P) (ys := [v]) hng hgb (by simp [hg]) (fun t _ => hsl.at_ t) v (by simp) xv hv
    cases hs : evV sl xv <;> rw [hs] at hev' <;> first | (simp only [condRes] at hev'; cases hev'; done) | skip
    rename_i b
    cases b with
    | true =>
     simp only [condRes] at hev'
     have d := ihc c nt rd x sl ds h e sl' ds' h' hnt hc hw hev'
     refine ⟨d.1, fun β a w df hgb hr hdf hsl hfr ro m hro Q hQ => ?_⟩
     have k := key β a df hgb hsl
     rw [hs] at k; simp only [VR] at k
     exact wpIn_cond_true k (WPx.wp (d.2 β a w df hgb hr hdf hsl hfr ro m hro Q hQ))
    | false =>
     simp only [condRes] at hev'
     have d := ihc c nt rd y sl ds h e sl' ds' h' hnt hc hw hev'
     refine ⟨d.1, fun β a w df hgb hr hdf hsl hfr ro m hro Q hQ => ?_⟩
     have k := key β a df hgb hsl
     rw [hs] at k; simp only [VR] at k
     exact wpIn_cond_false k (WPx.wp (d.2 β a w df hgb hr hdf hsl hfr ro m hro Q hQ))
 | block id x =>
  simp only [cC, stepC] at hev'
  cases hx : ev (cC P) (tblX P X) M n c (.code nt rd (cC P x) sl ds) h with
  | bad => rw [hx] at hev'; cases hev'
  | call _ _ => rw [hx] at hev'; cases hev'
  | code e1 sl1 ds1 h1 =>
   rw [hx] at hev'
   have d1 := ihc c nt rd x sl ds h e1 sl1 ds1 h1 hnt hc hw hx
   have fin : e1 ≠ .exit id → e1 = e → sl1 = sl' → ds1 = ds' → h1 = h' → CodeDid P ng nt rd (.block id x) c sl ds h e sl' ds' h' := fun hne q1 q2 q3 q4 => by
    subst q1 q2 q3 q4
    refine ⟨d1.1, fun β a w df hgb hr hdf hsl hfr ro m hro Q hQ => ?_⟩
    show (Code.block id x).wpIn (W ro) m P Q a w
    refine wpIn_block (WPx.wp (d1.2 β a w df hgb hr hdf hsl hfr ro m hro _ fun β1 a1 w1 df1 hP1 hd1 hs1 => ?_))
    cases e1 with
    | normal => exact hQ β1 a1 w1 df1 hP1 hd1 hs1
    | ret => exact hQ β1 a1 w1 df1 hP1 hd1 hs1
    | exit id' =>
     have : id' ≠ id := fun q => hne (by rw [q])
     simp only [Ex.toExit, Exit.inBlock, if_neg this]
     exact hQ β1 a1 w1 df1 hP1 hd1 hs1
   cases e1 with
   | normal => simp only [blockRes] at hev'; cases hev'; exact fin (fun q => by cases q) rfl rfl rfl rfl
   | ret => simp only [blockRes] at hev'; cases hev'; exact fin (fun q => by cases q) rfl rfl rfl rfl
   | exit id' =>
    simp only [blockRes] at hev'
    cases hb : Nat.beq id' id with
    | false =>
     rw [hb] at hev'
     simp only [cond] at hev'
     cases hev'
     exact fin (fun q => by cases q; simp at hb) rfl rfl rfl rfl
    | true =>
     rw [hb] at hev'
     simp only [cond] at hev'
     cases hev'
     have hid : id' = id := Nat.eq_of_beq_eq_true hb
     refine ⟨d1.1, fun β a w df hgb hr hdf hsl hfr ro m hro Q hQ => ?_⟩
     show (Code.block id x).wpIn (W ro) m P Q a w
     refine wpIn_block (WPx.wp (d1.2 β a w df hgb hr hdf hsl hfr ro m hro _ fun β1 a1 w1 df1 hP1 hd1 hs1 => ?_))
     simp only [Ex.toExit, Exit.inBlock, if_pos hid]
     exact hQ β1 a1 w1 df1 hP1 hd1 hs1
 | loop x =>
  have old : seqRes (ev (cC P) (tblX P X) M n) c nt rd (cC P (.loop x)) (ev (cC P) (tblX P X) M n c (.code nt rd (cC P x) sl ds) h) = .code e sl' ds' h' → CodeDid P ng nt rd (.loop x) c sl ds h e sl' ds' h' := fun hev' => by
   cases hx : ev (cC P) (tblX P X) M n c (.code nt rd (cC P x) sl ds) h with
   | bad => rw [hx] at hev'; cases hev'
   | call _ _ => rw [hx] at hev'; cases hev'
   | code e1 sl1 ds1 h1 =>
    rw [hx] at hev'
    have d1 := ihc c nt rd x sl ds h e1 sl1 ds1 h1 hnt hc hw hx
    cases e1 with
    | normal =>
     simp only [seqRes] at hev'
     exact d1.loop (ihc c nt rd (.loop x) sl1 ds1 h1 e sl' ds' h' hnt (hc.mono d1.1.le) d1.1.wf hev')
    | exit id => simp only [seqRes] at hev'; cases hev'; exact d1.loopOut (fun q => by cases q)
    | ret => simp only [seqRes] at hev'; cases hev'; exact d1.loopOut (fun q => by cases q)
  cases hq : rngOf x with
  | none =>
   refine old (Eq.trans ?_ hev')
   simp only [cC, hq]; rfl
  | some q =>
   obtain ⟨q1, q2, q3, q4⟩ := q
   have hcl : cC P (.loop x) = .rng q1 q2 q3 q4 (cC P x) := by simp only [cC, hq]
   have hev2 : seqRes (ev (cC P) (tblX P X) M n) c nt rd (.rng q1 q2 q3 q4 (cC P x)) (ev (cC P) (tblX P X) M n c (.code nt rd (cC P x) sl ds) h) = .code e sl' ds' h' := by
    rw [hcl] at hev'
    exact hev'
   exact old (by rw [hcl]; exact hev2)
 | rangeFunc f ps assign body =>
  simp only [cC] at hev'
  cases hv : cV f with
  | none => rw [hv] at hev'; simp only [stepC] at hev'; cases hev'
  | some xf =>
   rw [hv] at hev'
   cases hg : gOk P f with
   | false => rw [hg] at hev'; simp only [stepC] at hev'; cases hev'
   | true =>
    rw [hg] at hev'
    simp only [stepC] at hev'
    cases rd with
    | true => cases hev'
    | false => exact rf_next hng ihf hc hw hv hg hev'
 | exit id =>
  simp only [cC, stepC] at hev'
  cases hev'
  exact CodeDid.nothing hw fun r m Q a w hQ => wpIn_exit hQ
 | ret =>
  simp only [cC, stepC] at hev'
  cases hev'
  exact CodeDid.nothing hw fun r m Q a w hQ => wpIn_ret hQ
 | label l =>
  simp only [cC, stepC] at hev'
  cases hev'
  exact CodeDid.nothing hw fun r m Q a w hQ => wpIn_label hQ
 | _ => simp only [cC, stepC] at hev'; cases hev'
theorem tblOf_some {f : Nat} {x : XF} (h : tblOf P f = some x) : ∃ fn b rs, P.funcs[f]? = some fn ∧ fn.body = some b ∧ fn.results.toList.mapM (cRes P) = some rs ∧ fn.ntmps ≤ 1000000 ∧ x = { nt := fn.ntmps, res := rs, body := cC P b } := by
 unfold tblOf at h
 rw [Option.bind_eq_some_iff] at h
 obtain ⟨fn, h1, h2⟩ := h
 unfold cF at h2
 simp only [Option.bind_eq_bind, Option.bind_eq_some_iff] at h2
 obtain ⟨b, h3, rs, h4, h5⟩ := h2
 split at h5
 ·rename_i hle
  simp at h5
  exact ⟨fn, b, rs, h1, h3, h4, hle, h5.symm⟩
 ·cases h5
theorem fn_next {ih : Runner} {c : C} {f : Nat} {x : XF} {args : List AV} {h : H} {v : AV} {h' : H} (hNG : ∀ (f : Nat) (fn : Func), P.funcs[f]? = some fn → (fn.name == "runtime.NumGoroutine") = false) (ihc : CodeOk P ng ih) (hc : Ctx c h) (hw : WF h) (ht : tblOf P f = some x)
  (hev' : stepF ih c args h (some (.fn x)) = .call v h') : FnDid P ng f args c h v h' := by
 obtain ⟨fn, b, rs, h1, h2, h3, h4, rfl⟩ := tblOf_some ht
 simp only [stepF] at hev'
 cases hle : Nat.ble (lenN args) fn.ntmps with
 | false => rw [hle] at hev'; cases hev'
 | true =>
  rw [hle] at hev'
  simp only [cond, slotsOf_eq] at hev'
  have hle' : args.length ≤ fn.ntmps := by have := Nat.le_of_ble_eq_true hle; rwa [lenN_eq] at this
  cases hx : ih c (.code fn.ntmps false (cC P b) (setAll args 0 .nil) []) h with
  | bad => rw [hx] at hev'; cases hev'
  | call _ _ => rw [hx] at hev'; cases hev'
  | code e1 sl1 ds1 h1' =>
   rw [hx] at hev'
   have d := ihc c fn.ntmps false b _ [] h e1 sl1 ds1 h1' h4 hc hw hx
   have main : shutD c ds1 h1' (fun h => resOf c h sl1 rs fun vs => retRes h vs) = .call v h' → (e1 = .normal ∨ e1 = .ret) → FnDid P ng f args c h v h' := fun hres he => by
    obtain ⟨h2', hres, st2, hn2, hshut⟩ := shutD_some (P := P) (fun q => by cases q) ds1 h1' _ d.1.wf hres
    obtain ⟨vs, k1, _⟩ := resOf_some (P := P) (df := []) (nt := fn.ntmps) (fun q => by cases q) fn.results.toList rs _ h3 hres
    have hh : h2' = h' := by
     unfold retRes at k1
     split at k1 <;> (cases k1; rfl)
    subst hh
    refine ⟨d.1.trans st2, ⟨fn, h1, by rw [h2]; rfl, hNG f fn h1⟩, fun β w cargs hgb hr hv hfr R hR => ?_⟩
    refine (callsIn_w (r := none) (n := 0)).1 (callsIn_of_wp_marks h1 h2 trivial (WPx.wp (F := W none) (d.2 β _ w [] hgb hr rfl (start_slots hv hle' h4) (fun id q1 q2 => hfr id q1 (by rw [hn2]; exact q2)) none 0 (fun _ => rfl) _ fun β1 a1 w1 df1 hP1 hd1 hs1 => ?_)))
    have leave : LeavesInM (W none) 0 P fn a1.tmps R a1.defers .returning w1 := by
     rw [hs1.defers]
     refine hshut β1 w1 df1 hP1.hr hd1 0 fn a1.tmps R fun w2 hP2 => ?_
     obtain ⟨vs', k1', k2⟩ := resOf_some (P := P) (df := df1) (nt := fn.ntmps) (fun q => by cases q) fn.results.toList rs _ h3 hres
     obtain ⟨us, u1, u2, u3⟩ := k2 β1 a1 w2 hP2.hr hs1
     have hrun := run_results (P := P) u2 u3
     have hvr : VR β1 v (resV us) := by
      cases vs' with
      | nil =>
       simp only [retRes] at k1'
       cases k1'
       simp only [VRs] at u1; subst u1
       simp [VR, VRs, resV]
      | cons v1 vs' =>
       cases vs' with
       | nil =>
        simp only [retRes] at k1'
        cases k1'
        simp only [VRs] at u1
        obtain ⟨u, us', rfl, q1, rfl⟩ := u1
        exact q1
       | cons v2 vs' =>
        simp only [retRes] at k1'
        cases k1'
        have u1' := u1
        simp only [VRs] at u1
        obtain ⟨u, us', rfl, q1, u2', us'', rfl, q2, q3⟩ := u1
        simp only [VR, resV]
        exact ⟨_, rfl, by simpa using u1'⟩
     exact ⟨_, hrun, hR β1 _ w2 (hP1.trans hP2) hvr⟩
    rcases he with rfl | rfl
    ·exact leave
    ·exact leave
   cases e1 with
   | normal => exact main hev' (Or.inl rfl)
   | ret => exact main hev' (Or.inr rfl)
   | exit id => cases hev'
theorem call_next {n : Nat} (hNG : ∀ (f : Nat) (fn : Func), P.funcs[f]? = some fn → (fn.name == "runtime.NumGoroutine") = false) (hX : ExtOk P X) (hM : MemoOk P ng M) (ihc : CodeOk P ng (ev (cC P) (tblX P X) M n)) : CallOk P ng (callOf (ev (cC P) (tblX P X) M (n + 1))) := by
 intro f args c h v h' hc hw hcall
 unfold callOf at hcall
 have hev : ev (cC P) (tblX P X) M (n + 1) c (.call f args) h = .call v h' := by
  cases hx : ev (cC P) (tblX P X) M (n + 1) c (.call f args) h with
  | bad => rw [hx] at hcall; cases hcall
  | code _ _ _ _ => rw [hx] at hcall; cases hcall
  | call v1 h1 => rw [hx] at hcall; cases hcall; rfl
 cases f with
 | yld id => exact round_next ihc hc hw hev
 | fnB f =>
  have hev' : (match tblX P X f with | some (.fn x) => stepF (ev (cC P) (tblX P X) M n) c args h (some (.fn x)) | _ => .bad) = .call v h' := hev
  split at hev'
  ·rename_i x ht
   unfold tblX at ht
   split at ht
   ·cases ht
   ·simp only [Option.map_eq_some_iff] at ht
    obtain ⟨x', h1, h2⟩ := ht
    cases h2
    exact fn_next hNG ihc hc hw h1 hev'
  ·cases hev'
 | fn f =>
  show UpDid P ng (.fn f) args c h v h'
  have hev0 : (match M f args c h with | some r => Res.call r.1 r.2 | none => stepF (ev (cC P) (tblX P X) M n) c args h (tblX P X f)) = .call v h' := hev
  cases hmm : M f args c h with
  | some r =>
   rw [hmm] at hev0
   cases hev0
   exact hM f args c h r.1 r.2 hmm hc hw
  | none =>
  rw [hmm] at hev0
  have hev' : stepF (ev (cC P) (tblX P X) M n) c args h (tblX P X f) = .call v h' := hev0
  cases hx : extOf X f with
  | some g =>
   have ht : tblX P X f = some (.ext g) := by unfold tblX; rw [hx]
   rw [ht] at hev'
   simp only [stepF] at hev'
   split at hev'
   ·rename_i v1 hg
    cases hev'
    refine ⟨Step.refl hw, fun β w cargs hgb hr hv hfr S hS r n o a K Q hK => ?_⟩
    have hS' : S = callFunc f cargs.toArray := hS
    subst hS'
    obtain ⟨u, q1, q2⟩ := hX f g hx args v hg β cargs w hv
    rw [q1, Oper.uponIn_value]
    exact hK β u w (Post.refl hr) q2
   ·cases hev'
  | none =>
   have ht : tblX P X f = (tblOf P f).map .fn := by unfold tblX; rw [hx]
   rw [ht] at hev'
   cases hf : tblOf P f with
   | none => rw [hf] at hev'; cases hev'
   | some x =>
    rw [hf] at hev'
    exact (fn_next hNG ihc hc hw hf hev').up
theorem ev_sound (hmx : P.follows .mixedOrders = true) (hO : OpOk P ng) (hng : P.globals.size ≤ ng) (hNG : ∀ (f : Nat) (fn : Func), P.funcs[f]? = some fn → (fn.name == "runtime.NumGoroutine") = false) (hX : ExtOk P X) (hM : MemoOk P ng M) : ∀ n, CodeOk P ng (ev (cC P) (tblX P X) M n) ∧ CallOk P ng (callOf (ev (cC P) (tblX P X) M n))
 | 0 => ⟨fun c nt rd code sl ds h e sl' ds' h' _ _ _ q => (by cases q), fun f args c h v h' _ _ q => (by cases q)⟩
 | n + 1 =>
  have ih := ev_sound hmx hO hng hNG hX hM n
  ⟨code_next hmx hO hng ih.1 ih.2, call_next hNG hX hM ih.1⟩
theorem MemoOk.no : MemoOk P ng noM := fun f args c h v h' q => by cases q
end
end Go.Proofs.YtmdceifbbmnfgaaGreatDoor.Ev
