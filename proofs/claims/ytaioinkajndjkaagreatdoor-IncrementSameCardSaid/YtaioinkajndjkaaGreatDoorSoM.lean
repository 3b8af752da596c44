/- Sorted keys and strings.Join inside an evaluation. -/
import Derived.Test.YtaioinkajndjkaaGreatDoorEvFin
import Derived.Lib.SlKeysI
import Derived.Maps.Own
import Derived.Sort.KeysCollected
set_option linter.unusedVariables false
set_option linter.unusedSimpArgs false
/- Calls of slices.Sorted(maps.Keys(m)), the keys numbers: answered. -/
namespace Go.Proofs.YtaioinkajndjkaaGreatDoor.Ev
open Go Go.RowKit Go.Maps Go.MapKept
def zOf : List (AV × AV × Nat) → Option (List Int)
  | [] => some []
  | e :: es => match e.1 with
    | .int .i64 n => bif inR .i64 n then match zOf es with
      | some l => some (n :: l)
      | none => none
      else none
    | _ => none
def stampOk : List (AV × AV × Nat) → Nat → Nat → Bool
  | [], _, _ => true
  | e :: es, lb, cl => Nat.ble lb e.2.2 && Nat.blt e.2.2 cl && stampOk es (Nat.succ e.2.2) cl
def notIn (x : Int) : List Int → Bool
  | [] => true
  | y :: l => bif eqI x y then false else notIn x l
def nodupZ : List Int → Bool
  | [] => true
  | x :: l => notIn x l && nodupZ l
def insZ (x : Int) : List Int → List Int
  | [] => [x]
  | y :: l => bif ltI y x then y :: insZ x l else x :: y :: l
def sortZ : List Int → List Int
  | [] => []
  | x :: l => insZ x (sortZ l)
def cellsK {R : Type} : List Int → (List AV → Option R) → Option R
  | [], k => k []
  | x :: l, k => forceInt x fun x => cellsK l fun r => k (.int .i64 x :: r)
theorem cellsK_eq {R : Type} : ∀ (l : List Int) (k : List AV → Option R), cellsK l k = k (l.map fun x => .int .i64 x)
  | [], k => rfl
  | x :: l, k => by
    unfold cellsK
    rw [forceInt_eq, cellsK_eq l]; rfl
def sortedM (f g0 : Nat) : Mf := fun g args c h => bif Nat.beq g f then match args with
  | [.fn g1 [.ptr q 0]] => bif Nat.beq g1 g0 then match getB c h q with
    | some (.kbox id) => match getB c h id with
      | some (.map es clock) => bif stampOk es 0 clock && Nat.blt (lenN es) 1000000 then match zOf es with
        | some l => bif nodupZ l then cellsK (sortZ l) fun vs => match vs with
          | [] => some (.nils, h)
          | v :: vs => forceNat (lenN (v :: vs)) fun n => newB h (.cells (v :: vs)) fun id' h' => some (.sl id' 0 n 1 none, h')
          else none
        | none => none
        else none
      | _ => none
    | _ => none
    else none
  | _ => none
 else none
/-- calls of maps.Keys -/
def keysM (f g0 : Nat) : Mf := fun g args c h => bif Nat.beq g f then match args with
  | [.mp id] => newB h (.kbox id) fun q h' => some (.fn g0 [.ptr q 0], h')
  | _ => none
 else none
/-! plain facts -/
theorem insZ_perm (x : Int) : ∀ (l : List Int), (insZ x l).Perm (x :: l)
  | [] => List.Perm.refl _
  | y :: l => by
    unfold insZ
    cases ltI y x with
    | true => exact ((insZ_perm x l).cons y).trans (List.Perm.swap x y l)
    | false => exact List.Perm.refl _
theorem sortZ_perm : ∀ (l : List Int), (sortZ l).Perm l
  | [] => List.Perm.refl _
  | x :: l => (insZ_perm x (sortZ l)).trans ((sortZ_perm l).cons x)
theorem insZ_sorted (x : Int) : ∀ (l : List Int), l.Pairwise (fun a b => a ≤ b) → (insZ x l).Pairwise (fun a b => a ≤ b)
  | [], _ => by simp [insZ]
  | y :: l, h => by
    rw [List.pairwise_cons] at h
    unfold insZ
    cases hb : ltI y x with
    | true =>
      rw [ltI_eq, decide_eq_true_eq] at hb
      show (y :: insZ x l).Pairwise _
      rw [List.pairwise_cons]
      refine ⟨fun z hz => ?_, insZ_sorted x l h.2⟩
      rcases List.mem_cons.1 ((insZ_perm x l).mem_iff.1 hz) with rfl | hz
      · omega
      · exact h.1 z hz
    | false =>
      rw [ltI_eq, decide_eq_false_iff_not] at hb
      show (x :: y :: l).Pairwise _
      rw [List.pairwise_cons, List.pairwise_cons]
      refine ⟨fun z hz => ?_, h.1, h.2⟩
      rcases List.mem_cons.1 hz with rfl | hz
      · omega
      · have := h.1 z hz; omega
theorem sortZ_sorted : ∀ (l : List Int), (sortZ l).Pairwise (fun a b => a ≤ b)
  | [] => List.Pairwise.nil
  | x :: l => insZ_sorted x _ (sortZ_sorted l)
theorem sortZ_merge (l : List Int) : sortZ l = l.mergeSort fun x y => decide (x ≤ y) := by
  have tr : ∀ a b c : Int, (decide (a ≤ b)) = true → (decide (b ≤ c)) = true → (decide (a ≤ c)) = true := fun a b c h1 h2 => by simp only [decide_eq_true_eq] at *; exact Int.le_trans h1 h2
  have to : ∀ a b : Int, (decide (a ≤ b) || decide (b ≤ a)) = true := fun a b => by simp only [Bool.or_eq_true, decide_eq_true_eq]; exact Int.le_total a b
  refine List.Perm.eq_of_pairwise (le := fun a b => a ≤ b) (fun a b _ _ h1 h2 => Int.le_antisymm h1 h2) (sortZ_sorted l) ?_ ((sortZ_perm l).trans (List.mergeSort_perm l _).symm)
  exact (List.pairwise_mergeSort tr to l).imp fun h => by simpa using h
theorem notIn_some {x : Int} : ∀ {l : List Int}, notIn x l = true → x ∉ l
  | [], _ => by simp
  | y :: l, h => by
    unfold notIn at h
    cases hb : eqI x y with
    | true => rw [hb] at h; cases h
    | false =>
      rw [hb, cond_false] at h
      have hne : x ≠ y := fun q => by
        subst q
        have : eqI x x = true := by cases x <;> simp [eqI]
        rw [this] at hb; cases hb
      simp [hne, notIn_some h]
theorem nodupZ_some : ∀ {l : List Int}, nodupZ l = true → l.Nodup
  | [], _ => List.nodup_nil
  | x :: l, h => by
    unfold nodupZ at h
    rw [Bool.and_eq_true] at h
    exact List.nodup_cons.2 ⟨notIn_some h.1, nodupZ_some h.2⟩
theorem stampOk_some : ∀ {es : List (AV × AV × Nat)} {lb cl : Nat}, stampOk es lb cl = true → (∀ e ∈ es, lb ≤ e.2.2 ∧ e.2.2 < cl) ∧ (es.map fun e => e.2.2).Nodup
  | [], _, _, _ => ⟨fun e he => by (cases he), List.nodup_nil⟩
  | e :: es, lb, cl, h => by
    unfold stampOk at h
    rw [Bool.and_eq_true, Bool.and_eq_true] at h
    have h1 := Nat.le_of_ble_eq_true h.1.1
    have h2 : e.2.2 < cl := by simpa [Nat.blt_eq] using h.1.2
    obtain ⟨h3, h4⟩ := stampOk_some h.2
    refine ⟨fun x hx => ?_, ?_⟩
    · rcases List.mem_cons.1 hx with rfl | hx
      · exact ⟨h1, h2⟩
      · have := h3 x hx; omega
    · rw [List.map_cons, List.nodup_cons]
      refine ⟨fun hm => ?_, h4⟩
      obtain ⟨x, hx, hxe⟩ := List.mem_map.1 hm
      have := (h3 x hx).1
      have : x.2.2 = e.2.2 := hxe
      omega
theorem er_keys {β : Bet} : ∀ {es : List (AV × AV × Nat)} {ces : List MapEntry} {l : List Int}, ER β es ces → zOf es = some l → ces.map (·.key) = l.map (fun x => Value.int .i64 x) ∧ (∀ x ∈ l, inR .i64 x = true) ∧ ces.map (·.born) = es.map (fun e => e.2.2)
  | [], ces, l, he, hz => by
    have : ces = [] := he
    subst this
    simp only [zOf, Option.some.injEq] at hz
    subst hz
    exact ⟨rfl, fun x hx => by (cases hx), rfl⟩
  | e :: es, ces, l, he, hz => by
    obtain ⟨ce, ces', rfl, h1, h2, h3, h4⟩ := he
    unfold zOf at hz
    split at hz
    · rename_i n hk
      cases hb : inR .i64 n with
      | false => rw [hb] at hz; cases hz
      | true =>
        rw [hb, cond_true] at hz
        split at hz
        · rename_i l' hl'
          cases hz
          obtain ⟨k1, k2, k3⟩ := er_keys h4 hl'
          rw [hk] at h1
          simp only [VR] at h1
          refine ⟨by rw [List.map_cons, List.map_cons, k1, h1], fun x hx => ?_, by rw [List.map_cons, List.map_cons, k3, h3]⟩
          rcases List.mem_cons.1 hx with rfl | hx
          · exact hb
          · exact k2 x hx
        · cases hz
    · cases hz
theorem inR_wf {x : Int} (h : inR .i64 x = true) : (Lit.int .i64 x).wf = true := by
  cases x with
  | ofNat m =>
    have := Nat.le_of_ble_eq_true h
    simp [Lit.wf, IntKind.min, IntKind.max, IntKind.signed, IntKind.bits]
    omega
  | negSucc m =>
    have := Nat.le_of_ble_eq_true h
    simp [Lit.wf, IntKind.min, IntKind.max, IntKind.signed, IntKind.bits]
    omega
section
variable {f n : Nat} {β : Bet} {g g' : View} {w w' : World}
theorem post_below (h : HR f β g w) (hb : Below w.heap.size w w') : Post f n n β g w β g w' := by
  refine ⟨Nat.le_refl _, Sub.refl _, fun id L q1 q2 => by (rw [q2] at q1; cases q1), ⟨fun id b q => ?_, h.inj⟩, hb.os, hb.tape, hb.output, hb.size, fun B hB _ => hb.block B hB, fun id L q1 q2 => by (rw [q2] at q1; cases q1), fun id b q => Or.inl ⟨b, q⟩⟩
  obtain ⟨L, q1, q2, q3⟩ := h.at_ id b q
  exact ⟨L, q1, Nat.lt_of_lt_of_le q2 hb.size, q3.mono (Sub.refl _) (hb.block _ q2)⟩
theorem post_new {b : AB} {L : Loc} (h : HR f β g w) (hn : β n = none) (hblk : w.heap.size ≤ L.blk) (hlt : L.blk < w'.heap.size) (hw : Below w.heap.size w w')
    (hb : BR (upd β n L) L w' b) (hg : ∀ id d, g' id = some d → (id = n ∧ d = b) ∨ (id ≠ n ∧ g id = some d)) : Post f n (n + 1) β g w (upd β n L) g' w' := by
  have hs := hw.size
  refine ⟨by omega, upd_sub L hn, fun id M h1 h2 => ?_, ⟨fun id d e => ?_, fun i j d e M N h1 h2 h3 h4 h5 => ?_⟩, hw.os, hw.tape, hw.output, hs, fun B hB _ => hw.block B hB, fun id M h1 h2 => ?_, fun id d e => ?_⟩
  · by_cases x : id = n
    · omega
    · rw [upd_other x, h2] at h1; cases h1
  · rcases hg id d e with ⟨rfl, rfl⟩ | ⟨x, e⟩
    · exact ⟨L, upd_same _ _ _, hlt, hb⟩
    · obtain ⟨M, h1, h2, h3⟩ := h.at_ id d e
      exact ⟨M, by rw [upd_other x]; exact h1, by omega, h3.mono (upd_sub L hn) (hw.block _ h2)⟩
  · have old : ∀ i d M, i ≠ n → g i = some d → upd β n L i = some M → M.blk < w.heap.size := fun i d M x e1 e2 => by
      rw [upd_other x] at e2
      obtain ⟨M', h1, h2, _⟩ := h.at_ i d e1
      rw [h1] at e2; cases e2; exact h2
    rcases hg i d h1 with ⟨rfl, rfl⟩ | ⟨x, e1⟩ <;> rcases hg j e h2 with ⟨rfl, rfl⟩ | ⟨y, e2⟩
    · exact Or.inl rfl
    · have := old j e N y e2 h4
      rw [upd_same] at h3; cases h3; omega
    · have := old i d M x e1 h3
      rw [upd_same] at h4; cases h4; omega
    · rw [upd_other x] at h3; rw [upd_other y] at h4
      exact h.inj i j d e M N e1 e2 h3 h4 h5
  · by_cases x : id = n
    · subst x; rw [upd_same] at h1; cases h1; exact Or.inl hblk
    · rw [upd_other x, h2] at h1; cases h1
  · rcases hg id d e with ⟨rfl, rfl⟩ | ⟨_, e⟩
    · exact Or.inr hn
    · exact Or.inl ⟨d, e⟩
end
section
variable {P : Program} {ng : Nat}
theorem owns_of {kt : TypeId} (hk : P.underlying kt = some (.int .i64)) {β : Bet} {w : World} {b clock : Nat} {es : List (AV × AV × Nat)} {ces : Array MapEntry} {l : List Int} (hb : w.heap[b]? = some (.map ces clock)) (he : ER β es ces.toList) (hz : zOf es = some l) (hst : stampOk es 0 clock = true) (hnd : nodupZ l = true) (hlen : es.length < 1000000) :
    ∃ D0 : DataW Unit, w.ownsMap P kt (fun _ => some (.nil, [])) b 1000000 D0 ∧ (intKeys D0).Perm l ∧ Maps.size D0 ≤ 1000000 := by
  obtain ⟨h1, h2, h3⟩ := er_keys he hz
  obtain ⟨s1, s2⟩ := stampOk_some hst
  have hcl : ces.toList.length = es.length := by
    have := congrArg List.length h3
    simpa using this
  have hrd : ∀ x ∈ ces.toList, ∃ n, x.key = .int .i64 n ∧ WideElems.rd P kt (fun _ => some ((.nil : DataW Unit), [])) x = some (.int .i64 n, .nil) := fun x hx => by
    have hm : x.key ∈ ces.toList.map (·.key) := List.mem_map.2 ⟨x, hx, rfl⟩
    rw [h1] at hm
    obtain ⟨n, hn, hne⟩ := List.mem_map.1 hm
    have hne' : x.key = .int .i64 n := hne.symm
    refine ⟨n, hne', ?_⟩
    unfold WideElems.rd
    rw [hne', keyOf_int_mk hk (inR_wf (h2 n hn))]
    rfl
  have hcs : ces.size = es.length := by simpa using hcl
  have hk1 : (l.map fun x => Value.int .i64 x).Nodup := by
    unfold List.Nodup
    rw [List.pairwise_map]
    exact (nodupZ_some hnd).imp fun h q => h (by simpa using q)
  refine ⟨_, ⟨ces, clock, hb, ⟨by unfold maxLen; omega, ⟨fun x hx => ?_, by rw [h3]; exact s2, by rw [h1]; exact hk1⟩, fun x hx => ?_⟩, by omega, rfl⟩, ?_, ?_⟩
  · have hm : x.born ∈ ces.toList.map (·.born) := List.mem_map.2 ⟨x, hx, rfl⟩
    rw [h3] at hm
    obtain ⟨e, he', hee⟩ := List.mem_map.1 hm
    have := (s1 e he').2
    have hee' : e.2.2 = x.born := hee
    omega
  · obtain ⟨n, _, hr⟩ := hrd x hx
    exact ⟨_, hr⟩
  · show (((ces.toList.map (WideElems.rg P kt _)).foldr DataW.insert []).map fun p => intOf p.1).Perm l
    refine ((Go.WideShapes.sorted_perm _).map _).trans ?_
    rw [List.map_map]
    have e1 : ces.toList.map ((fun p : Lit × DataW Unit => intOf p.1) ∘ WideElems.rg P kt fun _ => some (.nil, [])) = ces.toList.map fun x => match x.key with | .int _ n => n | _ => 0 := by
      apply List.map_congr_left
      intro x hx
      obtain ⟨n, hn, hr⟩ := hrd x hx
      show intOf (WideElems.rg P kt _ x).1 = _
      rw [WideElems.rg_of hr, hn]; rfl
    rw [e1]
    have e2 : (ces.toList.map fun x => match x.key with | .int _ n => n | _ => 0) = (ces.toList.map (·.key)).map fun v => match v with | .int _ n => n | _ => 0 := by
      rw [List.map_map]; rfl
    rw [e2, h1, List.map_map]
    have e3 : l.map ((fun v : Value => match v with | .int _ n => n | _ => 0) ∘ fun x => Value.int .i64 x) = l := by
      conv => rhs; rw [← List.map_id l]
      rfl
    rw [e3]
  · show Maps.size (.map ((ces.toList.map (WideElems.rg P kt _)).foldr DataW.insert [])) ≤ _
    have hp := (Go.WideShapes.sorted_perm (ces.toList.map (WideElems.rg P kt (fun _ => some ((.nil : DataW Unit), []))))).length_eq
    rw [List.length_map, hcl] at hp
    show (((ces.toList.map (WideElems.rg P kt _)).foldr DataW.insert []) : List (Lit × DataW Unit)).length ≤ _
    omega
theorem keysM_ok {f g0 : Nat} (hfn : ∃ fn, P.funcs[f]? = some fn ∧ fn.body.isNone = false ∧ (fn.name == "runtime.NumGoroutine") = false) {t : TypeId}
    (hcall : ∀ (w : World) (b : Nat), Calls P f #[.map (some b)] w fun e w' => e = .returned (.func (.func g0) #[] #[.pointer (some ⟨w.heap.size, 0, none⟩)]) ∧ w' = w.alloc (.cells #[.map (some b)] t)) : MemoOk P ng (keysM f g0) := by
  intro g args c h v h' er hc hw
  unfold keysM at er
  cases hg : Nat.beq g f with
  | false => rw [hg] at er; cases er
  | true =>
    have := Nat.eq_of_beq_eq_true hg
    subst this
    rw [hg, cond_true] at er
    split at er
    · rename_i id
      obtain ⟨hn, er⟩ := newB_some er
      simp only [Option.some.injEq, Prod.mk.injEq] at er
      obtain ⟨rfl, rfl⟩ := er
      refine FnDid.up ⟨step_new hw hn, hfn, fun β w cargs hgb hr hv hfr R hR => ?_⟩
      have hnn := hfr h.n (Nat.le_refl _) (by simp)
      simp only [VRs, VR] at hv
      obtain ⟨_, _, rfl, ⟨M, hM, rfl⟩, rfl⟩ := hv
      refine (hcall w M.blk).mono ?_
      rintro e w' ⟨rfl, rfl⟩
      refine hR _ _ _ (post_push (L := ⟨w.heap.size, 0, 1, dv⟩) (b := .kbox id) hr hn hnn rfl ⟨M, t, upd_sub _ hnn _ _ hM, by simp, rfl⟩) ?_
      simp only [VR, VRs]
      exact ⟨_, rfl, _, [], rfl, ⟨_, upd_same _ _ _, rfl⟩, rfl⟩
    · cases er
theorem sortedM_ok {f g0 : Nat} {kt : TypeId} (hfn : ∃ fn, P.funcs[f]? = some fn ∧ fn.body.isNone = false ∧ (fn.name == "runtime.NumGoroutine") = false) (hk : P.underlying kt = some (.int .i64))
    (hcall : ∀ (w : World) (Bm b nn : Nat) (D0 : DataW Unit) (R : Value → Option (DataW Unit × List MemPlace)), Bm < w.heap.size → w.cell? ⟨Bm, 0, none⟩ = some (.map (some b)) → w.ownsMap P kt R b nn D0 → Maps.size D0 ≤ maxLen → Maps.size D0 * 8 ≤ 140737488355328 →
      Calls P f #[.func (.func g0) #[] #[.pointer (some ⟨Bm, 0, none⟩)]] w fun e w' => ∃ (v : Value) (ss : List Int), e = .returned v ∧ ss.Perm (intKeys D0) ∧ w'.ownsRow w.heap.size kt 1 v ss.length ((ss.mergeSort (fun x y => decide (x ≤ y))).map encZ) ∧ (v = .slice none 0 0 ↔ ss = []) ∧ Below w.heap.size w w') : MemoOk P ng (sortedM f g0) := by
  intro g args c h v h' er hc hw
  unfold sortedM at er
  cases hg : Nat.beq g f with
  | false => rw [hg] at er; cases er
  | true =>
    have := Nat.eq_of_beq_eq_true hg
    subst this
    rw [hg, cond_true] at er
    split at er
    · rename_i g1 q
      cases hg1 : Nat.beq g1 g0 with
      | false => rw [hg1] at er; cases er
      | true =>
        have := Nat.eq_of_beq_eq_true hg1
        subst this
        rw [hg1, cond_true] at er
        split at er
        · rename_i id hgq
          split at er
          · rename_i es clock hgm
            cases hst : (stampOk es 0 clock && Nat.blt (lenN es) 1000000) with
            | false => rw [hst] at er; cases er
            | true =>
              rw [hst, cond_true] at er
              rw [Bool.and_eq_true, lenN_eq] at hst
              obtain ⟨hst1, hst2⟩ := hst
              have hst3 : es.length < 1000000 := by simpa [Nat.blt_eq] using hst2
              split at er
              · rename_i l hz
                cases hnd : nodupZ l with
                | false => rw [hnd] at er; cases er
                | true =>
                  rw [hnd, cond_true, cellsK_eq] at er
                  -- what the call does
                  have run : ∀ β (w : World) (cargs : List Value), HR c.floor β (view c h) w → VRs β [.fn g1 [.ptr q 0]] cargs → Calls P g cargs.toArray w fun e w' => ∃ (u : Value), e = .returned u ∧ w'.ownsRow w.heap.size kt 1 u (sortZ l).length ((sortZ l).map encZ) ∧ (u = .slice none 0 0 ↔ sortZ l = []) ∧ Below w.heap.size w w' := fun β w cargs hr hv => by
                    simp only [VRs, VR] at hv
                    obtain ⟨_, _, rfl, ⟨cs, rfl, hcs⟩, rfl⟩ := hv
                    obtain ⟨_, _, hcs1, ⟨L, hL, rfl⟩, rfl⟩ := hcs
                    have hcs2 : cs = #[.pointer (some ⟨L.blk, L.base + 0, none⟩)] := Array.ext' (by simpa using hcs1)
                    subst hcs2
                    obtain ⟨L1, q1, q2, M, tb, hM, hbx, hbase⟩ := hr.at_ q _ (view_live hgq (fun z => by cases z))
                    rw [hL] at q1; cases q1
                    have k1 : w.cell? ⟨L.blk, 0, none⟩ = some (.map (some M.blk)) := by simp [World.cell?, hbx]
                    obtain ⟨M', r1, r2, ces, r3, r4⟩ := hr.at_ id _ (view_map hgm)
                    rw [hM] at r1; cases r1
                    obtain ⟨D0, o1, o2, o3⟩ := owns_of hk r3 r4 hz hst1 hnd hst3
                    rw [hbase]
                    refine (hcall w L.blk M.blk 1000000 D0 _ q2 k1 o1 (by unfold maxLen; omega) (by omega)).mono ?_
                    rintro e w' ⟨u, ss, rfl, z1, z2, z3, z4⟩
                    have hp : ss.Perm l := z1.trans o2
                    have hm : (ss.mergeSort fun x y => decide (x ≤ y)) = sortZ l := by rw [sortZ_merge]; exact mergeSort_of_perm_i hp
                    have hlen : ss.length = (sortZ l).length := by rw [hp.length_eq, (sortZ_perm l).length_eq]
                    rw [hm, hlen] at z2
                    refine ⟨u, rfl, z2, z3.trans ⟨fun q => ?_, fun q => ?_⟩, z4⟩
                    · rw [q] at hlen; exact List.eq_nil_of_length_eq_zero hlen.symm
                    · rw [q] at hlen; exact List.eq_nil_of_length_eq_zero hlen
                  cases hs : sortZ l with
                  | nil =>
                    rw [hs] at er
                    simp only [List.map_nil, Option.some.injEq, Prod.mk.injEq] at er
                    obtain ⟨rfl, rfl⟩ := er
                    refine FnDid.up ⟨Step.refl hw, hfn, fun β w cargs hgb hr hv hfr R hR => ?_⟩
                    refine (run β w cargs hr hv).mono ?_
                    rintro e w' ⟨u, rfl, z1, z2, z3⟩
                    exact hR β u w' (post_below hr z3) (by simp only [VR]; exact z2.2 hs)
                  | cons x zs =>
                    rw [hs] at er
                    simp only [List.map_cons, forceNat_eq, lenN_eq] at er
                    obtain ⟨hn, er⟩ := newB_some er
                    simp only [Option.some.injEq, Prod.mk.injEq] at er
                    obtain ⟨rfl, rfl⟩ := er
                    refine FnDid.up ⟨step_new hw hn, hfn, fun β w cargs hgb hr hv hfr R hR => ?_⟩
                    have hnn := hfr h.n (Nat.le_refl _) (by simp)
                    refine (run β w cargs hr hv).mono ?_
                    rintro e w' ⟨u, rfl, z1, z2, z3⟩
                    rw [hs] at z1 z2
                    rcases z1.2 with ⟨_, z⟩ | ⟨gb, cap, cur, rfl, y1, y2, y3, y4, y5, y6⟩
                    · simp at z
                    · have hgl : gb < w'.heap.size := by
                        rcases Nat.lt_or_ge gb w'.heap.size with q | q
                        · exact q
                        · rw [Array.getElem?_eq_none q] at y2; cases y2
                      refine hR (upd β h.n ⟨gb, 0, cap, dv⟩) _ w' (post_new (L := ⟨gb, 0, cap, dv⟩) (b := .cells ((x :: zs).map fun z => AV.int .i64 z)) hr hnn y1 hgl z3 ⟨cur, (kt, (0, 0)), y2, ⟨by rw [y5]; simp, by simp only [List.length_cons, List.length_map] at y3 ⊢; show 0 + _ ≤ cap; omega, fun i _ _ => by simp⟩, fun i v hi => ?_⟩ (fun i d e => view_new hn e)) ?_
                      · have hi' : ((x :: zs).map fun z => AV.int .i64 z)[i]? = some v := hi
                        rw [List.getElem?_map, Option.map_eq_some_iff] at hi'
                        obtain ⟨z, hz1, rfl⟩ := hi'
                        refine ⟨.int .i64 z, ?_, by simp only [VR]⟩
                        have hlt : i < (x :: zs).length := (List.getElem?_eq_some_iff.1 hz1).1
                        have h5 : (cur.toList.take ((x :: zs).length * 1))[i]? = some (.int .i64 z) := by
                          rw [y6, List.getElem?_map, hz1]; rfl
                        rw [List.getElem?_take_of_lt (by omega)] at h5
                        rw [Nat.zero_add]
                        simpa using h5
                      · simp only [VR]
                        refine ⟨_, 0, cap, upd_same _ _ _, by simp, by simpa using y3, by show 0 + cap * 1 ≤ cap; omega, Or.inl rfl, fun d hd => by cases hd⟩
              · cases er
          · cases er
        · cases er
    · cases er
end
end Go.Proofs.YtaioinkajndjkaaGreatDoor.Ev
/- strings.Join, answered inside an evaluation. -/
namespace Go.Proofs.YtaioinkajndjkaaGreatDoor.Ev
open Go
def catL : List Nat → List Nat → List Nat
  | [], r => r
  | x :: l, r => x :: catL l r
def joinL (sep : List Nat) : List (List Nat) → List Nat
  | [] => []
  | x :: r => match r with
    | [] => x
    | _ :: _ => catL x (catL sep (joinL sep r))
def strsK : Nat → List AV → Option (List (List Nat))
  | 0, _ => some []
  | n + 1, .str s :: l => match strsK n l with
    | some r => some (s :: r)
    | none => none
  | _ + 1, _ => none
def dropL : Nat → List AV → List AV
  | 0, l => l
  | _ + 1, [] => []
  | n + 1, _ :: l => dropL n l
/-- the answer of strings.Join -/
def JM (f : Nat) : Mf := fun g args c h => bif Nat.beq g f then match args with
    | [.sl id off n 1 _, .str sep] => match n with
      | 0 => some (.str [], h)
      | n + 1 => match getB c h id with
        | some (.cells vs) => match strsK (n + 1) (dropL off vs) with
          | some xs => bif Nat.ble (lenN (joinL sep xs)) 1000000 && Nat.ble n 1000000 then some (.str (joinL sep xs), h) else none
          | none => none
        | _ => none
    | [.nils, .str sep] => some (.str [], h)
    | _ => none
  else none
end Go.Proofs.YtaioinkajndjkaaGreatDoor.Ev