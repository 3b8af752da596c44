/- The evaluator: calls with ranges over maps in every order; answers for renamed inputs. -/
import Derived.Test.YtmdceifbbmnfgaaGreatDoorEvFin
set_option linter.unusedVariables false
set_option linter.unusedSimpArgs false
namespace Go.Proofs.YtmdceifbbmnfgaaGreatDoor.Ev
open Go
open Go.ChangeMaps (setBlock)
/-! the evaluation -/
abbrev NEnd := Ex × Tr AV × H
def catN (l : Option (List NEnd)) (r : Option (List NEnd)) : Option (List NEnd) := match l, r with
 | some l, some r => some (l ++ r)
 | _, _ => none
def bindN (k : NEnd → Option (List NEnd)) : List NEnd → Option (List NEnd)
 | [] => some []
 | e :: es => catN (k e) (bindN k es)
def bindO (l : Option (List NEnd)) (k : NEnd → Option (List NEnd)) : Option (List NEnd) := match l with
 | some l => bindN k l
 | none => none
def leaveN (id : Nat) : NEnd → NEnd
 | (.exit id', p) => bif Nat.beq id' id then (.normal, p) else (.exit id', p)
 | e => e
def mapN (f : NEnd → NEnd) : List NEnd → List NEnd
 | [] => []
 | e :: es => f e :: mapN f es
def eachN (k : AV × AV × Nat → Option (List NEnd)) (seen : List Nat) : List (AV × AV × Nat) → Option (List NEnd)
 | [] => some []
 | e :: es => bif seen.elem e.2.2 then eachN k seen es else catN (k e) (eachN k seen es)
def allSeen (seen : List Nat) : List (AV × AV × Nat) → Bool
 | [] => true
 | e :: es => seen.elem e.2.2 && allSeen seen es
def rngN (c : C) (t u id : Nat) (body : Tr AV → H → Option (List NEnd)) (again : NEnd → Option (List NEnd)) (sl : Tr AV) (h : H) : AV → Option (List NEnd)
 | .ptr it 0 => match getB c h it with
  | some (.iter (some m) since seen last) => match getB c h m with
   | some (.map es clock) => bif Nat.ble since last && Nat.ble since clock && bornLt since es then
     bif allSeen seen es then Tr.setK depth sl t (.tup [.bool false]) fun sl => Tr.setK depth sl u (.bool false) fun sl => some [(.exit id, sl, h)]
     else eachN (fun e => setB c h it (.iter (some m) since (seen ++ [e.2.2]) clock) fun h => bindO (roundS t u e sl fun sl => body sl h) again) seen es
    else none
   | _ => none
  | _ => none
 | _ => none
def onN (k : Tr AV → H → Option (List NEnd)) : NEnd → Option (List NEnd)
 | (.normal, sl, h) => k sl h
 | e => some [e]
def nilIt (c : C) (h : H) : AV → Bool
 | .ptr it 0 => match getB c h it with
  | some (.iter none _ _ _) => true
  | _ => false
 | _ => false
def nev (ih : Runner) (c : C) (nt : Nat) : Nat → XC → Tr AV → H → Option (List NEnd)
 | 0, _, _, _ => none
 | n + 1, x, sl, h => match x with
  | .seq a b => bindO (nev ih c nt n a sl h) (onN fun sl h => nev ih c nt n b sl h)
  | .block id b => match nev ih c nt n b sl h with
   | some l => some (mapN (leaveN id) l)
   | none => none
  | .cond v a b => match evV sl v with
   | .bool true => nev ih c nt n a sl h
   | .bool false => nev ih c nt n b sl h
   | _ => none
  | .loop b => bindO (nev ih c nt n b sl h) (onN fun sl h => nev ih c nt n (.loop b) sl h)
  | .rng x t u id b => match b with
   | .seq _ (.seq _ b') => bif nilIt c h (slot sl x) then (match ih c (.code nt false (.rng x t u id b) sl []) h with
     | .code e sl [] h => some [(e, sl, h)]
     | _ => none)
    else bif Nat.blt t nt && Nat.blt u nt then
     rngN c t u id (fun sl h => nev ih c nt n b' sl h) (onN fun sl h => nev ih c nt n (.rng x t u id b) sl h) sl h (slot sl x)
    else none
   | _ => none
  | x => match ih c (.code nt false x sl []) h with
   | .code e sl [] h => some [(e, sl, h)]
   | _ => none
def answerN (c : C) (rs : List (Nat × Option (Option Nat))) (e : NEnd) : Option (AV × H) := match endRes c rs (.code e.1 e.2.1 [] e.2.2) with
 | .call v h => some (v, h)
 | _ => none
def idsN (lo : Nat) : AV → List Nat
 | .sl id _ _ _ _ => bif Nat.ble lo id then [id] else []
 | .ptr id _ => bif Nat.ble lo id then [id] else []
 | .mp id => bif Nat.ble lo id then [id] else []
 | _ => []
def rootsN (lo : Nat) : Nat → AV → List Nat
 | d + 1, .tup vs => vs.flatMap (rootsN lo d)
 | d + 1, .agg vs => vs.flatMap (rootsN lo d)
 | _, v => idsN lo v
def keptN (h : H) : List Nat → List (Nat × AB)
 | [] => []
 | i :: is => match Tr.get h.t i with
  | some b => (i, b) :: keptN h is
  | none => keptN h is
def cellsN : AB → List AV
 | .cells vs => vs
 | _ => []
def deepN (h : H) (lo : Nat) : Nat → List Nat → List (Nat × AB)
 | 0, _ => []
 | d + 1, is => match keptN h is with
  | [] => []
  | l => l ++ deepN h lo d (l.flatMap fun p => (cellsN p.2).flatMap (rootsN lo 3))
def sameN (c : C) (rs : List (Nat × Option (Option Nat))) (lo N : Nat) (v : AV) (kept : List (Nat × AB)) : List NEnd → Bool
 | [] => true
 | e :: es => (match answerN c rs e with
  | some r => eqAV r.1 v && Nat.ble r.2.n N && Nat.ble e.2.2.n N && subT r.2.t kept
  | none => false) && sameN c rs lo N v kept es
def layN : List (Nat × AB) → Tr AB → Tr AB
 | [], t => t
 | p :: ps, t => Tr.setK depth (layN ps t) p.1 p.2 id
def allGe (lo N : Nat) : List (Nat × AB) → Bool
 | [] => true
 | p :: ps => Nat.ble lo p.1 && Nat.blt p.1 N && allGe lo N ps
def callN (ih : Runner) (fuel : Nat) (fn : XF) (args : List AV) (c : C) (h : H) : Option (AV × H) :=
 bif Nat.ble (lenN args) fn.nt && Nat.ble fn.nt 1000000 then
  match nev ih ⟨h.n, c.vis⟩ fn.nt fuel fn.body (setAll args 0 .nil) h with
  | some (e :: es) => match answerN ⟨h.n, c.vis⟩ fn.res e with
   | some r => forceNat (Nat.add h.n 100000) fun N =>
    let kept := deepN r.2 h.n 4 (rootsN h.n 3 r.1)
    bif sameN ⟨h.n, c.vis⟩ fn.res h.n N r.1 kept (e :: es) && allGe h.n N kept && Nat.ble N 10000000 then some (r.1, ⟨layN kept h.t, N⟩) else none
   | none => none
  | _ => none
 else none
def nevM (comp : Code → XC) (tbl : Nat → Option XT) (M : Mf) (fuel : Nat) (fs : List Nat) : Mf := fun f args c h => bif fs.elem f then
  match tbl f with
  | some (.fn x) => callN (ev comp tbl M fuel) fuel x args c h
  | _ => none
 else none
def orM (a b : Mf) : Mf := fun f args c h => match a f args c h with
 | some r => some r
 | none => b f args c h
section
variable {P : Program} {ng : Nat}
theorem cC_seq {code : Code} {A B : XC} (h : cC P code = .seq A B) : ∃ x y, code = .seq x y ∧ cC P x = A ∧ cC P y = B := by
 cases code with
 | seq x y => simp only [cC] at h; cases h; exact ⟨x, y, rfl, rfl, rfl⟩
 | region id ops d =>
  cases d with
  | false => simp only [cC] at h; cases h
  | true => simp only [cC] at h; cases hq : okD ops (Region.before ops) <;> rw [hq] at h <;> cases h
 | cond v x y => simp only [cC] at h; split at h <;> cases h
 | loop b => simp only [cC] at h; split at h <;> cases h
 | rangeFunc f ps as b => simp only [cC] at h; split at h <;> cases h
 | _ => simp only [cC] at h; cases h
theorem cC_block {code : Code} {id : Nat} {A : XC} (h : cC P code = .block id A) : ∃ x, code = .block id x ∧ cC P x = A := by
 cases code with
 | block i x => simp only [cC] at h; cases h; exact ⟨x, rfl, rfl⟩
 | region id ops d =>
  cases d with
  | false => simp only [cC] at h; cases h
  | true => simp only [cC] at h; cases hq : okD ops (Region.before ops) <;> rw [hq] at h <;> cases h
 | cond v x y => simp only [cC] at h; split at h <;> cases h
 | loop b => simp only [cC] at h; split at h <;> cases h
 | rangeFunc f ps as b => simp only [cC] at h; split at h <;> cases h
 | _ => simp only [cC] at h; cases h
theorem cC_loop {code : Code} {A : XC} (h : cC P code = .loop A) : ∃ x, code = .loop x ∧ cC P x = A := by
 cases code with
 | loop b =>
  simp only [cC] at h
  split at h
  ·cases h
  ·cases h; exact ⟨b, rfl, rfl⟩
 | region id ops d =>
  cases d with
  | false => simp only [cC] at h; cases h
  | true => simp only [cC] at h; cases hq : okD ops (Region.before ops) <;> rw [hq] at h <;> cases h
 | cond v x y => simp only [cC] at h; split at h <;> cases h
 | rangeFunc f ps as b => simp only [cC] at h; split at h <;> cases h
 | _ => simp only [cC] at h; cases h
theorem cC_rng {code : Code} {x t u id : Nat} {A : XC} (h : cC P code = .rng x t u id A) : ∃ y, code = .loop y ∧ rngOf y = some (x, t, u, id) ∧ cC P y = A := by
 cases code with
 | loop b =>
  simp only [cC] at h
  split at h
  ·rename_i q hq
   obtain ⟨q1, q2, q3, q4⟩ := q
   cases h
   exact ⟨b, rfl, hq, rfl⟩
  ·cases h
 | region id ops d =>
  cases d with
  | false => simp only [cC] at h; cases h
  | true => simp only [cC] at h; cases hq : okD ops (Region.before ops) <;> rw [hq] at h <;> cases h
 | cond v x y => simp only [cC] at h; split at h <;> cases h
 | rangeFunc f ps as b => simp only [cC] at h; split at h <;> cases h
 | _ => simp only [cC] at h; cases h
theorem cC_cond {code : Code} {v : XV} {A B : XC} (h : cC P code = .cond v A B) : ∃ y x1 x2, code = .cond y x1 x2 ∧ cV y = some v ∧ gOk P y = true ∧ cC P x1 = A ∧ cC P x2 = B := by
 cases code with
 | cond y x1 x2 =>
  simp only [cC] at h
  split at h
  ·rename_i c' hc hg
   cases h
   exact ⟨y, x1, x2, rfl, hc, hg, rfl, rfl⟩
  ·cases h
 | region id ops d =>
  cases d with
  | false => simp only [cC] at h; cases h
  | true => simp only [cC] at h; cases hq : okD ops (Region.before ops) <;> rw [hq] at h <;> cases h
 | loop b => simp only [cC] at h; split at h <;> cases h
 | rangeFunc f ps as b => simp only [cC] at h; split at h <;> cases h
 | _ => simp only [cC] at h; cases h
/-! it holds -/
theorem catN_some {l r : Option (List NEnd)} {q : List NEnd} (h : catN l r = some q) : ∃ l' r', l = some l' ∧ r = some r' ∧ q = l' ++ r' := by
 unfold catN at h
 split at h
 ·cases h; exact ⟨_, _, rfl, rfl, rfl⟩
 ·cases h
theorem bindN_some {k : NEnd → Option (List NEnd)} : ∀ {l q : List NEnd}, bindN k l = some q → (∀ e ∈ l, ∃ r, k e = some r ∧ ∀ x ∈ r, x ∈ q) ∧ ∀ x ∈ q, ∃ e ∈ l, ∃ r, k e = some r ∧ x ∈ r
 | [], q, h => by
  simp only [bindN, Option.some.injEq] at h
  subst h
  exact ⟨fun e he => absurd he (by simp), fun x hx => absurd hx (by simp)⟩
 | e :: es, q, h => by
  unfold bindN at h
  obtain ⟨l', r', h1, h2, rfl⟩ := catN_some h
  obtain ⟨k1, k2⟩ := bindN_some h2
  refine ⟨fun e' he => ?_, fun x hx => ?_⟩
  ·rcases List.mem_cons.1 he with rfl | he
   ·exact ⟨l', h1, fun x hx => List.mem_append_left _ hx⟩
   ·obtain ⟨r, r1, r2⟩ := k1 e' he
    exact ⟨r, r1, fun x hx => List.mem_append_right _ (r2 x hx)⟩
  ·rcases List.mem_append.1 hx with hx | hx
   ·exact ⟨e, by simp, l', h1, hx⟩
   ·obtain ⟨e', he', r, r1, r2⟩ := k2 x hx
    exact ⟨e', by simp [he'], r, r1, r2⟩
theorem bindO_some {l : Option (List NEnd)} {k : NEnd → Option (List NEnd)} {q : List NEnd} (h : bindO l k = some q) : ∃ l', l = some l' ∧ (∀ e ∈ l', ∃ r, k e = some r ∧ ∀ x ∈ r, x ∈ q) ∧ ∀ x ∈ q, ∃ e ∈ l', ∃ r, k e = some r ∧ x ∈ r := by
 unfold bindO at h
 split at h
 ·exact ⟨_, rfl, bindN_some h⟩
 ·cases h
theorem mapN_mem {f : NEnd → NEnd} : ∀ {l : List NEnd} {x : NEnd}, x ∈ mapN f l ↔ ∃ e ∈ l, x = f e
 | [], x => by simp [mapN]
 | e :: l, x => by
  simp only [mapN, List.mem_cons, mapN_mem (l := l)]
  constructor
  ·rintro (h | ⟨e', h1, h2⟩)
   ·exact ⟨e, Or.inl rfl, h⟩
   ·exact ⟨e', Or.inr h1, h2⟩
  ·rintro ⟨e', h1 | h1, h2⟩
   ·subst h1; exact Or.inl h2
   ·exact Or.inr ⟨e', h1, h2⟩
theorem eachN_some {k : AV × AV × Nat → Option (List NEnd)} {seen : List Nat} : ∀ {es : List (AV × AV × Nat)} {q : List NEnd}, eachN k seen es = some q → (∀ e ∈ es, e.2.2 ∉ seen → ∃ r, k e = some r ∧ ∀ x ∈ r, x ∈ q) ∧ ∀ x ∈ q, ∃ e ∈ es, ∃ r, k e = some r ∧ x ∈ r
 | [], q, h => by
  simp only [eachN, Option.some.injEq] at h
  subst h
  exact ⟨fun e he => absurd he (by simp), fun x hx => absurd hx (by simp)⟩
 | e :: es, q, h => by
  unfold eachN at h
  cases hs : seen.elem e.2.2 with
  | true =>
   rw [hs, cond_true] at h
   obtain ⟨k1, k2⟩ := eachN_some h
   refine ⟨fun e' he hn => ?_, fun x hx => ?_⟩
   ·rcases List.mem_cons.1 he with rfl | he
    ·exact absurd (by simpa using hs) hn
    ·exact k1 e' he hn
   ·obtain ⟨e', he', r⟩ := k2 x hx
    exact ⟨e', by simp [he'], r⟩
  | false =>
   rw [hs, cond_false] at h
   obtain ⟨l', r', h1, h2, rfl⟩ := catN_some h
   obtain ⟨k1, k2⟩ := eachN_some h2
   refine ⟨fun e' he hn => ?_, fun x hx => ?_⟩
   ·rcases List.mem_cons.1 he with rfl | he
    ·exact ⟨l', h1, fun x hx => List.mem_append_left _ hx⟩
    ·obtain ⟨r, r1, r2⟩ := k1 e' he hn
     exact ⟨r, r1, fun x hx => List.mem_append_right _ (r2 x hx)⟩
   ·rcases List.mem_append.1 hx with hx | hx
    ·exact ⟨e, by simp, l', h1, hx⟩
    ·obtain ⟨e', he', r, r1, r2⟩ := k2 x hx
     exact ⟨e', by simp [he'], r, r1, r2⟩
theorem allSeen_iff {seen : List Nat} : ∀ {es : List (AV × AV × Nat)}, allSeen seen es = true ↔ ∀ e ∈ es, e.2.2 ∈ seen
 | [] => by simp [allSeen]
 | e :: es => by
  unfold allSeen
  rw [Bool.and_eq_true, allSeen_iff (es := es)]
  simp
def NDid (P : Program) (ng nt : Nat) (code : Code) (c : C) (sl : Tr AV) (h : H) (outs : List NEnd) : Prop :=
 (∀ e ∈ outs, Step c h e.2.2) ∧ ∀ N, h.n ≤ N → (∀ e ∈ outs, e.2.2.n ≤ N) → ∀ β a w, GB ng β → HR c.floor β (view c h) w → SlR nt [] β sl a → (∀ id, h.n ≤ id → id < N → β id = none) → ∀ (m : Nat) (Q : Exit → Act → World → Prop),
  (∀ e ∈ outs, ∀ β' a' w', Post c.floor h.n e.2.2.n β (view c h) w β' (view c e.2.2) w' → SlR nt [] β' e.2.1 a' → Q e.1.toExit a' w') → WPx (W none) m P code Q a w
theorem freshN {h h1 : H} {N : Nat} {β β1 : Bet} {g g1 : View} {w w1 : World} {f : Nat} (hP : Post f h.n h1.n β g w β1 g1 w1) (hfr : ∀ id, h.n ≤ id → id < N → β id = none) : ∀ id, h1.n ≤ id → id < N → β1 id = none := fun id q1 q2 => by
 cases hb : β1 id with
 | none => rfl
 | some L =>
  have h0 := hfr id (Nat.le_trans hP.le q1) q2
  have := hP.fresh id L hb h0
  omega
theorem CodeDid.nd {nt : Nat} {code : Code} {c : C} {sl sl' : Tr AV} {h h' : H} {e : Ex} (d : CodeDid P ng nt false code c sl [] h e sl' [] h') : NDid P ng nt code c sl h [(e, sl', h')] := by
 refine ⟨fun e' he => ?_, fun N hN hle β a w hgb hr hsl hfr m Q hQ => ?_⟩
 ·simp only [List.mem_singleton] at he; subst he; exact d.1
 ·refine d.2 β a w [] hgb hr rfl hsl (fun id q1 q2 => hfr id q1 (Nat.lt_of_lt_of_le q2 (hle _ (List.mem_singleton.2 rfl)))) none m (fun _ => rfl) Q fun β' a' w' df' hP hdf hs => ?_
  have hdf' : df' = [] := hdf
  subst hdf'
  exact hQ _ (List.mem_singleton.2 rfl) β' a' w' hP hs
section
variable {c : C} {nt : Nat} {ih : Runner}
theorem bindN_ne {k : NEnd → Option (List NEnd)} {l q : List NEnd} (h : bindN k l = some q) (hl : l ≠ []) (hk : ∀ e r, k e = some r → r ≠ []) : q ≠ [] := by
 cases l with
 | nil => exact absurd rfl hl
 | cons e l =>
  obtain ⟨k1, _⟩ := bindN_some h
  obtain ⟨r, r1, r2⟩ := k1 e (by simp)
  have := hk e r r1
  cases r with
  | nil => exact absurd rfl this
  | cons x r => intro q0; have := r2 x (by simp); rw [q0] at this; cases this
theorem bindO_ne {l : Option (List NEnd)} {k : NEnd → Option (List NEnd)} {q : List NEnd} (h : bindO l k = some q) (hl : ∀ l', l = some l' → l' ≠ []) (hk : ∀ e r, k e = some r → r ≠ []) : q ≠ [] := by
 unfold bindO at h
 split at h
 ·exact bindN_ne h (hl _ rfl) hk
 ·cases h
theorem rngN_ne {t u id : Nat} {body : Tr AV → H → Option (List NEnd)} {again : NEnd → Option (List NEnd)} {sl : Tr AV} {h : H} {v : AV} {q : List NEnd} (e : rngN c t u id body again sl h v = some q) (hb : ∀ sl h r, body sl h = some r → r ≠ []) (ha : ∀ e r, again e = some r → r ≠ []) : q ≠ [] := by
 unfold rngN at e
 split at e
 ·split at e
  ·split at e
   ·rw [Bool.cond_eq_ite] at e
    split at e
    ·rw [Bool.cond_eq_ite] at e
     split at e
     ·simp only [Tr.setK_eq, Option.some.injEq] at e
      rw [← e]; simp
     ·rename_i hall
      obtain ⟨k1, _⟩ := eachN_some e
      intro q0
      subst q0
      apply hall
      refine allSeen_iff.2 fun e0 he0 => ?_
      refine Classical.byContradiction fun hs => ?_
      ·exfalso
       obtain ⟨r, r1, r2⟩ := k1 e0 he0 hs
       obtain ⟨_, _, r1⟩ := setB_some r1
       have hne := bindO_ne r1 (fun l' hl => by
        unfold roundS at hl
        simp only [Tr.setK_eq] at hl
        exact hb _ _ _ hl) ha
       cases r with
       | nil => exact hne rfl
       | cons x r => have := r2 x (by simp); cases this
    ·cases e
   ·cases e
  ·cases e
 ·cases e
theorem nev_ne : ∀ (n : Nat) (x : XC) (sl : Tr AV) (h : H) (outs : List NEnd), nev ih c nt n x sl h = some outs → outs ≠ []
 | 0, x, sl, h, outs, e => by cases e
 | n + 1, x, sl, h, outs, e => by
  have IH := nev_ne n
  unfold nev at e
  split at e
  ·refine bindO_ne e (fun l' hl => IH _ _ _ _ hl) fun e1 r hr => ?_
   unfold onN at hr
   split at hr
   ·exact IH _ _ _ _ hr
   ·cases hr; simp
  ·split at e
   ·rename_i l hl
    cases e
    have := IH _ _ _ _ hl
    cases l with
    | nil => exact absurd rfl this
    | cons a l => simp [mapN]
   ·cases e
  ·split at e
   ·exact IH _ _ _ _ e
   ·exact IH _ _ _ _ e
   ·cases e
  ·refine bindO_ne e (fun l' hl => IH _ _ _ _ hl) fun e1 r hr => ?_
   unfold onN at hr
   split at hr
   ·exact IH _ _ _ _ hr
   ·cases hr; simp
  ·split at e
   ·rw [Bool.cond_eq_ite] at e
    split at e
    ·split at e
     ·cases e; simp
     ·cases e
    rw [Bool.cond_eq_ite] at e
    split at e
    ·refine rngN_ne e (fun sl h r hr => IH _ _ _ _ hr) fun e1 r hr => ?_
     unfold onN at hr
     split at hr
     ·exact IH _ _ _ _ hr
     ·cases hr; simp
    ·cases e
   ·cases e
  ·split at e
   ·cases e; simp
   ·cases e
theorem nev_rng {n : Nat} (hnt : nt ≤ 1000000) (IH : ∀ (code : Code) (sl : Tr AV) (h : H) (outs : List NEnd), Ctx c h → WF h → nev ih c nt n (cC P code) sl h = some outs → NDid P ng nt code c sl h outs)
  {y : Code} {x t u id : Nat} (hy : rngOf y = some (x, t, u, id)) {sl : Tr AV} {h : H} {outs : List NEnd} (hc : Ctx c h) (hw : WF h) {a1 a2 b' : XC} (hcy : cC P y = .seq a1 (.seq a2 b')) (ht : t < nt) (hu : u < nt)
  (e : rngN c t u id (fun sl h => nev ih c nt n b' sl h) (onN fun sl h => nev ih c nt n (cC P (.loop y)) sl h) sl h (slot sl x) = some outs) : NDid P ng nt (.loop y) c sl h outs := by
 obtain ⟨i, o, o', z, rfl, p1, p2, p3, p4, p5, p6⟩ := rngOf_spec hy
 have hz : cC P z = b' := by
  have hcy' : XC.seq (cC P (.region i #[o, o'] false)) (.seq (cC P (.cond (.tmp u) .skip (.exit id))) (cC P z)) = .seq a1 (.seq a2 b') := hcy
  injection hcy' with _ q
  injection q with _ q
 cases hs : slot sl x <;> rw [hs] at e <;> first | (unfold rngN at e; cases e; done) | skip
 rename_i it off
 cases off with
 | succ off => unfold rngN at e; cases e
 | zero =>
 unfold rngN at e
 simp only at e
 split at e
 ·rename_i m since seen last hgi
  split at e
  ·rename_i es clock hgm
   cases hq : (Nat.ble since last && Nat.ble since clock && bornLt since es) with
   | false => rw [hq] at e; cases e
   | true =>
   rw [hq, cond_true] at e
   simp only [Bool.and_eq_true] at hq
   obtain ⟨⟨hsl_, hsc⟩, hbn⟩ := hq
   have hsl_ := Nat.le_of_ble_eq_true hsl_
   have hsc := Nat.le_of_ble_eq_true hsc
   have hborn := bornLt_some hbn
   -- the world's iterator and map
   have look : ∀ β (a : Act) (w : World), HR c.floor β (view c h) w → SlR nt [] β sl a → ∃ (L M : Loc) (ces : Array MapEntry), β it = some L ∧ L.blk < w.heap.size ∧ L.base = 0 ∧ a.eval (.tmp x) = .pointer (some ⟨L.blk, 0, none⟩) ∧ w.heap[L.blk]? = some (.mapIter (some M.blk) since seen.toArray last) ∧ β m = some M ∧ w.heap[M.blk]? = some (.map ces clock) ∧ ER β es ces.toList := fun β a w hr hsl => by
    obtain ⟨L, hL, hLs, om, q1, hL0, _, q3⟩ := hr.at_ it _ (view_live hgi (fun q => by cases q))
    obtain ⟨M, hM, rfl⟩ := q3 m rfl
    obtain ⟨M', z1, _, ces, z2, z3⟩ := hr.at_ m _ (view_map hgm)
    rw [hM] at z1; cases z1
    refine ⟨L, M, ces, hL, hLs, hL0, ?_, q1, hM, z2, z3⟩
    have := hsl.at_ x
    rw [hs] at this
    simp only [VR] at this
    obtain ⟨L', l1, l2⟩ := this
    rw [hL] at l1; cases l1
    rw [hL0] at l2
    exact l2
   have hd : ∀ q, o.op ≠ .defer q := fun q e => by rw [p1] at e; cases e
   have hd' : ∀ q, o'.op ≠ .defer q := fun q e => by rw [p4] at e; cases e
   have two : ∀ (a' : Act), a'.tmps.size = nt → ∀ (m0 : Nat) (w2 : World) (T : Array Value) (ok : Bool) (QQ : Exit → Act → World → Prop), T[0]? = some (.bool ok) → QQ .normal ((a'.put (some t) (.tuple T)).put (some u) (.bool ok)) w2 → wpOpsIn (W none) m0 P #[o, o'] QQ [1] (a'.put (some t) (.tuple T)) w2 := fun a' hsz m0 w2 T ok QQ hT hK => by
    rw [wpOpsIn_cons]
    unfold wpOpIn
    have hw2 : Region.wanted o' (yielded #[o, o'] (a'.put (some t) (.tuple T)).tmps) = true := by unfold Region.wanted; rw [p6]
    simp only [List.getElem?_toArray, List.getElem?_cons_succ, List.getElem?_cons_zero, hw2, if_true]
    refine ⟨fun _ _ => trivial, ?_⟩
    rw [Oper.semAt_eq _ _ _ hd']
    have hev : (a'.put (some t) (.tuple T)).eval (.tmp t) = .tuple T := by
     show (a'.put (some t) (.tuple T)).tmps.getD t undef = _
     rw [getD_put (by rw [hsz]; exact ht), if_pos rfl]
    have hrun : (execOp (a'.put (some t) (.tuple T)).eval o').run P w2 = .ok (.value (.bool ok)) w2 := by
     simp [execOp, p4, hev, Instr.extract, hT]
    rw [hrun, Oper.uponIn_value, p5]
    exact hK
   have second : ∀ (a' : Act), a'.tmps.size = nt → ∀ (T : Array Value) (ok : Bool), ((a'.put (some t) (.tuple T)).put (some u) (.bool ok)).eval (.tmp u) = .bool ok := fun a' hsz T ok => by
    show Array.getD _ u undef = _
    rw [getD_put (by show u < (a'.tmps.setIfInBounds t _).size; simp; rw [hsz]; exact hu), if_pos rfl]
   have hr2 : List.range (#[o, o'] : Array Oper).size = [0, 1] := rfl
   cases hall : allSeen seen es with
   | true =>
    rw [hall, cond_true] at e
    simp only [Tr.setK_eq, Option.some.injEq] at e
    subst e
    refine ⟨fun e' he => ?_, fun N hN hle β a w hgb hr hsl hfr m0 Q hQ => ?_⟩
    ·simp only [List.mem_singleton] at he; subst he; exact Step.refl hw
    ·obtain ⟨L, M, ces, hL, hLs, hL0, hvx, q1, hM, z2, z3⟩ := look β a w hr hsl
     show LoopWp (W none) m0 P _ Q a w
     refine loop_unroll ?_
     refine wpIn_seq (wpIn_region ?_)
     rw [hr2, wpOpsIn_cons]
     unfold wpOpIn
     have hw1 : Region.wanted o (yielded #[o, o'] a.tmps) = true := by unfold Region.wanted; rw [p3]
     simp only [List.getElem?_toArray, List.getElem?_cons_zero, hw1, if_true]
     refine ⟨fun _ _ => trivial, ?_⟩
     rw [Oper.semAt_eq _ _ _ hd]
     rcases run_next_at (P := P) w o.type L.blk M.blk since last seen.toArray ces clock q1 z2 (fun q hq => by
       obtain ⟨e, e1, _, _, e2⟩ := er_mem z3 q hq
       rw [e2]; exact hborn e e1) hsl_ with ⟨n1, n2⟩ | ⟨ce, n1, w1, n2, n3⟩
     ·have hrun : (execOp a.eval o).run P w = .ok (.value (.tuple #[.bool false])) w := by
       simp [execOp, p1, hvx, n2]
      rw [hrun, Oper.uponIn_value, p2]
      refine two a hsl.size m0 w #[.bool false] false _ (by simp) ?_
      show (Code.seq (.cond (.tmp u) .skip (.exit id)) z).wpIn (W none) m0 P _ _ _
      refine wpIn_seq (wpIn_cond_false (second a hsl.size _ _) (wpIn_exit ?_))
      show Q (.exit id) _ _
      exact hQ _ (List.mem_singleton.2 rfl) β _ w (Post.refl hr) (SlR.putR (d := some u) (SlR.putR (d := some t) hsl ⟨ht, rfl⟩ hnt (by
       simp only [VR, VRs]
       exact ⟨_, rfl, _, _, rfl, rfl, rfl⟩)) ⟨hu, rfl⟩ hnt (by simp [VR]))
     ·exfalso
      unfold leftOf at n1
      simp at n1
      obtain ⟨e, he, _, _, hbe⟩ := er_mem z3 ce (by simpa using n1.1)
      have := allSeen_iff.1 hall e he
      rw [← hbe] at this
      exact n1.2 (by simpa using this)
   | false =>
    rw [hall, cond_false] at e
    obtain ⟨k1, k2⟩ := eachN_some e
    obtain ⟨g1, g2⟩ := getB_get hgi
    have hid10 : it < 10000000 := Nat.lt_of_lt_of_le (lt_of_get hw g1) hw.small
    -- what follows of an entry
    have part : ∀ e0 r, (setB c h it (.iter (some m) since (seen ++ [e0.2.2]) clock) fun h => bindO (roundS t u e0 sl fun sl => nev ih c nt n b' sl h) (onN fun sl h => nev ih c nt n (cC P (.loop (.seq (.region i #[o, o'] false) (.seq (.cond (.tmp u) .skip (.exit id)) z)))) sl h)) = some r →
      c.floor ≤ it ∧ ∃ l, NDid P ng nt z c (Tr.set depth (Tr.set depth sl t (.tup [.bool true, e0.1, e0.2.1])) u (.bool true)) ⟨Tr.set depth h.t it (.iter (some m) since (seen ++ [e0.2.2]) clock), h.n⟩ l ∧
       (∀ e1 ∈ l, (e1.1 = .normal → ∃ r1, r1 ≠ [] ∧ NDid P ng nt (.loop (.seq (.region i #[o, o'] false) (.seq (.cond (.tmp u) .skip (.exit id)) z))) c e1.2.1 e1.2.2 r1 ∧ ∀ q ∈ r1, q ∈ r) ∧ (e1.1 ≠ .normal → e1 ∈ r)) ∧
       ∀ q ∈ r, ∃ e1 ∈ l, (e1.1 = .normal ∧ ∃ r1, NDid P ng nt (.loop (.seq (.region i #[o, o'] false) (.seq (.cond (.tmp u) .skip (.exit id)) z))) c e1.2.1 e1.2.2 r1 ∧ q ∈ r1) ∨ q = e1 := fun e0 r er => by
     obtain ⟨f1, f2, er⟩ := setB_some er
     obtain ⟨l, l1, l2, l3⟩ := bindO_some er
     unfold roundS at l1
     simp only [Tr.setK_eq] at l1
     have hst : Step c h ⟨Tr.set depth h.t it (.iter (some m) since (seen ++ [e0.2.2]) clock), h.n⟩ := step_set hw g1 f1 g2
     have d := IH z _ _ l (hc.mono hst.le) hst.wf (by rw [hz]; exact l1)
     refine ⟨f1, l, d, fun e1 he1 => ?_, fun q hq => ?_⟩
     ·obtain ⟨r1, r2, r3⟩ := l2 e1 he1
      obtain ⟨ex, sl1, h1⟩ := e1
      have hst1 := d.1 _ he1
      cases ex with
      | normal => exact ⟨fun _ => ⟨r1, nev_ne _ _ _ _ _ r2, IH _ sl1 h1 r1 ((hc.mono hst.le).mono hst1.le) hst1.wf r2, r3⟩, fun q => absurd rfl q⟩
      | exit i => have r2 : some [(Ex.exit i, sl1, h1)] = some r1 := r2; cases r2; exact ⟨fun q => absurd q (fun q => by cases q), fun _ => r3 _ (List.mem_singleton.2 rfl)⟩
      | ret => have r2 : some [(Ex.ret, sl1, h1)] = some r1 := r2; cases r2; exact ⟨fun q => absurd q (fun q => by cases q), fun _ => r3 _ (List.mem_singleton.2 rfl)⟩
     ·obtain ⟨e1, he1, r1, r2, r3⟩ := l3 q hq
      refine ⟨e1, he1, ?_⟩
      obtain ⟨ex, sl1, h1⟩ := e1
      have hst1 := d.1 _ he1
      cases ex with
      | normal => exact Or.inl ⟨rfl, r1, IH _ sl1 h1 r1 ((hc.mono hst.le).mono hst1.le) hst1.wf r2, r3⟩
      | exit i =>
       right
       have r2 : some [(Ex.exit i, sl1, h1)] = some r1 := r2
       cases r2
       exact List.mem_singleton.1 r3
      | ret =>
       right
       have r2 : some [(Ex.ret, sl1, h1)] = some r1 := r2
       cases r2
       exact List.mem_singleton.1 r3
    refine ⟨fun q hq => ?_, fun N hN hle β a w hgb hr hsl hfr m0 Q hQ => ?_⟩
    ·obtain ⟨e0, he0, r, r1, r2⟩ := k2 q hq
     obtain ⟨f1, l, d, _, d3⟩ := part e0 r r1
     have hst : Step c h ⟨Tr.set depth h.t it (.iter (some m) since (seen ++ [e0.2.2]) clock), h.n⟩ := step_set hw g1 f1 g2
     obtain ⟨e1, he1, q1⟩ := d3 q r2
     have s1 := hst.trans (d.1 e1 he1)
     rcases q1 with ⟨_, r1', dd, q2⟩ | rfl
     ·exact s1.trans (dd.1 q q2)
     ·exact s1
    ·obtain ⟨L, M, ces, hL, hLs, hL0, hvx, q1, hM, z2, z3⟩ := look β a w hr hsl
     show LoopWp (W none) m0 P _ Q a w
     refine loop_unroll ?_
     refine wpIn_seq (wpIn_region ?_)
     rw [hr2, wpOpsIn_cons]
     unfold wpOpIn
     have hw1 : Region.wanted o (yielded #[o, o'] a.tmps) = true := by unfold Region.wanted; rw [p3]
     simp only [List.getElem?_toArray, List.getElem?_cons_zero, hw1, if_true]
     refine ⟨fun _ _ => trivial, ?_⟩
     rw [Oper.semAt_eq _ _ _ hd]
     rcases run_next_at (P := P) w o.type L.blk M.blk since last seen.toArray ces clock q1 z2 (fun q hq => by
       obtain ⟨e, e1, _, _, e2⟩ := er_mem z3 q hq
       rw [e2]; exact hborn e e1) hsl_ with ⟨n1, n2⟩ | ⟨ce, n1, w1, n2, n3⟩
     ·exfalso
      have : allSeen seen es = true := allSeen_iff.2 fun e he => by
       obtain ⟨ce, c1, c2⟩ := er_mem' z3 e he
       have hemp : leftOf ces seen.toArray = #[] := Array.eq_empty_of_size_eq_zero n1
       unfold leftOf at hemp
       rw [Array.filter_eq_empty_iff] at hemp
       have := hemp ce (by simpa using c1)
       simp at this
       rw [← c2]; exact this
      rw [hall] at this; cases this
     ·have hrun : (execOp a.eval o).run P w = .ok (.value (.tuple #[.bool true, ce.key, ce.val])) (setBlock w1 L.blk (.mapIter (some M.blk) since (seen.toArray.push ce.born) clock)) := by
       simp [execOp, p1, hvx, n3]
      rw [hrun, Oper.uponIn_value, p2]
      refine two a hsl.size m0 _ #[.bool true, ce.key, ce.val] true _ (by simp) ?_
      have hmem : ce ∈ ces.toList ∧ ce.born ∉ seen := by
       unfold leftOf at n1
       simp at n1
       exact ⟨by simpa using n1.1, fun q => n1.2 (by simpa using q)⟩
      obtain ⟨e0, he0, hkv, hvv, hbe⟩ := er_mem z3 ce hmem.1
      obtain ⟨r, r1, r2⟩ := k1 e0 he0 (by rw [← hbe]; exact hmem.2)
      obtain ⟨f1, l, d, d2, d3⟩ := part e0 r r1
      show (Code.seq (.cond (.tmp u) .skip (.exit id)) z).wpIn (W none) m0 P _ _ _
      refine wpIn_seq (wpIn_cond_true (second a hsl.size _ _) (wpIn_skip ?_))
      -- the iterator has stepped
      have hPw : ∀ w1 : World, (w1 = w ∨ w1 = w.drew) → Post c.floor h.n h.n β (view c h) w β (view c ⟨Tr.set depth h.t it (.iter (some m) since (seen ++ [e0.2.2]) clock), h.n⟩) (setBlock w1 L.blk (.mapIter (some M.blk) since (seen.toArray.push ce.born) clock)) := fun w1 hw1 => by
       have hh : (setBlock w1 L.blk (.mapIter (some M.blk) since (seen.toArray.push ce.born) clock)).heap = w.heap.setIfInBounds L.blk (.mapIter (some M.blk) since (seen.toArray.push ce.born) clock) := by
        rcases hw1 with rfl | rfl <;> rfl
       refine post_write (b := .iter (some m) since (seen ++ [e0.2.2]) clock) hr (view_live hgi (fun q => by cases q)) hL f1 (fun B hB => by rw [hh]; simp [Array.getElem?_setIfInBounds_ne (Ne.symm hB)]) (by rw [hh]; simp) ?_ ?_ ?_ ⟨some M.blk, ?_, hL0, fun q => (by cases q), fun i hi => by cases hi; exact ⟨M, hM, rfl⟩⟩ (fun j d ej => view_set hid10 ej)
       ·rcases hw1 with rfl | rfl <;> rfl
       ·rcases hw1 with rfl | rfl <;> rfl
       ·rcases hw1 with rfl | rfl <;> rfl
       ·rw [hh, Array.getElem?_setIfInBounds_self_of_lt hLs, hbe]
        simp
      have P0 := hPw w1 n2
      have hsl1 : SlR nt [] β (Tr.set depth (Tr.set depth sl t (.tup [.bool true, e0.1, e0.2.1])) u (.bool true)) ((a.put (some t) (.tuple #[.bool true, ce.key, ce.val])).put (some u) (.bool true)) :=
       SlR.putR (d := some u) (SlR.putR (d := some t) hsl ⟨ht, rfl⟩ hnt (by
        simp only [VR, VRs]
        exact ⟨_, rfl, _, _, rfl, rfl, _, _, rfl, hkv, _, _, rfl, hvv, rfl⟩)) ⟨hu, rfl⟩ hnt (by simp [VR])
      have hlN : ∀ e1 ∈ l, e1.2.2.n ≤ N := fun e1 he1 => by
       obtain ⟨d4, d5⟩ := d2 e1 he1
       by_cases hn : e1.1 = .normal
       ·obtain ⟨r1', dne, dd, dd2⟩ := d4 hn
        cases r1' with
        | nil => exact absurd rfl dne
        | cons q r1'' => exact Nat.le_trans (dd.1 q (by simp)).le (hle q (r2 q (dd2 q (by simp))))
       ·exact hle e1 (r2 _ (d5 hn))
      refine WPx.wp (d.2 N (by show h.n ≤ N; exact hN) hlN β _ _ hgb P0.hr hsl1 hfr m0 _ fun e1 he1 β1 a1 w1' hP1 hs1 => ?_)
      obtain ⟨d4, d5⟩ := d2 e1 he1
      have P1 := P0.trans hP1
      obtain ⟨ex, sl1, h1⟩ := e1
      cases ex with
      | normal =>
       obtain ⟨r1', _, dd, dd2⟩ := d4 rfl
       show LoopWp (W none) m0 P _ Q a1 w1'
       exact dd.2 N (hlN _ he1) (fun q hq => hle q (r2 q (dd2 q hq))) β1 a1 w1' (hgb.mono P1.sub) hP1.hr hs1 (freshN P1 hfr) m0 Q fun q hq β2 a2 w2 hP2 hs2 => hQ q (r2 q (dd2 q hq)) β2 a2 w2 (P1.trans hP2) hs2
      | exit i => exact hQ _ (r2 _ (d5 (fun q => by cases q))) β1 a1 w1' P1 hs1
      | ret => exact hQ _ (r2 _ (d5 (fun q => by cases q))) β1 a1 w1' P1 hs1
  ·cases e
 ·cases e
theorem nev_sound (hng : P.globals.size ≤ ng) (hnt : nt ≤ 1000000) (ihc : CodeOk P ng ih) : ∀ (n : Nat) (code : Code) (sl : Tr AV) (h : H) (outs : List NEnd), Ctx c h → WF h → nev ih c nt n (cC P code) sl h = some outs → NDid P ng nt code c sl h outs
 | 0, code, sl, h, outs, hc, hw, e => by cases e
 | n + 1, code, sl, h, outs, hc, hw, e => by
  have IH := nev_sound hng hnt ihc n
  have plain : (match ih c (.code nt false (cC P code) sl []) h with | .code e sl [] h => some [(e, sl, h)] | _ => none) = some outs → NDid P ng nt code c sl h outs := fun e => by
   split at e
   ·rename_i ex sl1 h1 hx
    cases e
    exact (ihc c nt false code sl [] h ex sl1 [] h1 hnt hc hw hx).nd
   ·cases e
  cases hX : cC P code with
  | seq A B =>
   rw [hX] at e
   obtain ⟨x, y, rfl, hA, hB⟩ := cC_seq hX
   unfold nev at e
   simp only at e
   obtain ⟨l, l1, l2, l3⟩ := bindO_some e
   rw [← hA] at l1
   have d := IH x sl h l hc hw l1
   have stp : ∀ e1 ∈ l, ∀ r1, onN (fun sl h => nev ih c nt n B sl h) e1 = some r1 → (e1.1 = .normal ∧ NDid P ng nt y c e1.2.1 e1.2.2 r1) ∨ (e1.1 ≠ .normal ∧ r1 = [e1]) := fun e1 he1 r1 hr1 => by
    obtain ⟨ex, sl1, h1⟩ := e1
    have hst := d.1 _ he1
    cases ex with
    | normal =>
     left
     rw [← hB] at hr1
     exact ⟨rfl, IH y sl1 h1 r1 (hc.mono hst.le) hst.wf hr1⟩
    | exit i => right; cases hr1; exact ⟨(fun q => by cases q), rfl⟩
    | ret => right; cases hr1; exact ⟨(fun q => by cases q), rfl⟩
   have nne : ∀ e1 r1, onN (fun sl h => nev ih c nt n B sl h) e1 = some r1 → r1 ≠ [] := fun e1 r1 hr1 => by
    unfold onN at hr1
    split at hr1
    ·exact nev_ne _ _ _ _ _ hr1
    ·cases hr1; simp
   refine ⟨fun q hq => ?_, fun N hN hle β a w hgb hr hsl hfr m0 Q hQ => ?_⟩
   ·obtain ⟨e1, he1, r1, r2, r3⟩ := l3 q hq
    rcases stp e1 he1 r1 r2 with ⟨_, dd⟩ | ⟨_, rfl⟩
    ·exact (d.1 e1 he1).trans (dd.1 q r3)
    ·simp only [List.mem_singleton] at r3; subst r3; exact d.1 _ he1
   ·have hlN : ∀ e1 ∈ l, e1.2.2.n ≤ N := fun e1 he1 => by
     obtain ⟨r1, r2, r3⟩ := l2 e1 he1
     have hne := nne e1 r1 r2
     cases r1 with
     | nil => exact absurd rfl hne
     | cons q r1 =>
      rcases stp e1 he1 _ r2 with ⟨_, dd⟩ | ⟨_, hq⟩
      ·exact Nat.le_trans (dd.1 q (by simp)).le (hle q (r3 q (by simp)))
      ·have : q = e1 := by cases hq; rfl
       rw [← this]; exact hle q (r3 q (by simp))
    show (Code.seq x y).wpIn (W none) m0 P Q a w
    refine wpIn_seq (WPx.wp (d.2 N hN hlN β a w hgb hr hsl hfr m0 _ fun e1 he1 β1 a1 w1 hP1 hs1 => ?_))
    obtain ⟨r1, r2, r3⟩ := l2 e1 he1
    rcases stp e1 he1 r1 r2 with ⟨hn, dd⟩ | ⟨hn, rfl⟩
    ·obtain ⟨ex, sl1, h1⟩ := e1
     cases hn
     exact WPx.wp (dd.2 N (hlN _ he1) (fun q hq => hle q (r3 q hq)) β1 a1 w1 (hgb.mono hP1.sub) hP1.hr hs1 (freshN hP1 hfr) m0 Q fun q hq β2 a2 w2 hP2 hs2 => hQ q (r3 q hq) β2 a2 w2 (hP1.trans hP2) hs2)
    ·obtain ⟨ex, sl1, h1⟩ := e1
     cases ex with
     | normal => exact absurd rfl hn
     | exit i => exact hQ _ (r3 _ (by simp)) β1 a1 w1 hP1 hs1
     | ret => exact hQ _ (r3 _ (by simp)) β1 a1 w1 hP1 hs1
  | block id B =>
   rw [hX] at e
   obtain ⟨x, rfl, hB⟩ := cC_block hX
   unfold nev at e
   simp only at e
   split at e
   ·rename_i l hl
    cases e
    rw [← hB] at hl
    have d := IH x sl h l hc hw hl
    have back : ∀ e1 : NEnd, (leaveN id e1).2 = e1.2 ∧ ∀ (Q : Exit → Act → World → Prop) a w, Q (leaveN id e1).1.toExit a w → Exit.inBlock id Q e1.1.toExit a w := fun e1 => by
     obtain ⟨ex, sl1, h1⟩ := e1
     cases ex with
     | normal => exact ⟨rfl, fun Q a w q => q⟩
     | ret => exact ⟨rfl, fun Q a w q => q⟩
     | exit i =>
      cases hb : Nat.beq i id with
      | true =>
       have := Nat.eq_of_beq_eq_true hb
       subst this
       have e1 : leaveN i (.exit i, sl1, h1) = (.normal, sl1, h1) := by
        show (bif Nat.beq i i then ((Ex.normal, sl1, h1) : NEnd) else (.exit i, sl1, h1)) = _
        rw [hb]; rfl
       rw [e1]
       exact ⟨rfl, fun Q a w q => by simp only [Ex.toExit, Exit.inBlock, if_true]; exact q⟩
      | false =>
       have hne : i ≠ id := fun q => by rw [q] at hb; simp at hb
       have e1 : leaveN id (.exit i, sl1, h1) = (.exit i, sl1, h1) := by
        show (bif Nat.beq i id then ((Ex.normal, sl1, h1) : NEnd) else (.exit i, sl1, h1)) = _
        rw [hb]; rfl
       rw [e1]
       exact ⟨rfl, fun Q a w q => by simp only [Ex.toExit, Exit.inBlock, if_neg hne]; exact q⟩
    refine ⟨fun q hq => ?_, fun N hN hle β a w hgb hr hsl hfr m0 Q hQ => ?_⟩
    ·obtain ⟨e1, he1, rfl⟩ := mapN_mem.1 hq
     rw [(back e1).1]; exact d.1 e1 he1
    ·show (Code.block id x).wpIn (W none) m0 P Q a w
     refine wpIn_block (WPx.wp (d.2 N hN (fun e1 he1 => by have := hle _ (mapN_mem.2 ⟨e1, he1, rfl⟩); rwa [(back e1).1] at this) β a w hgb hr hsl hfr m0 _ fun e1 he1 β1 a1 w1 hP1 hs1 => ?_))
     have k := hQ _ (mapN_mem.2 ⟨e1, he1, rfl⟩) β1 a1 w1 (by rw [(back e1).1]; exact hP1) (by rw [(back e1).1]; exact hs1)
     exact (back e1).2 Q a1 w1 k
   ·cases e
  | cond v A B =>
   rw [hX] at e
   obtain ⟨y, x1, x2, rfl, hy, hg, hA, hB⟩ := cC_cond hX
   unfold nev at e
   simp only at e
   have key : ∀ (β : Bet) (a : Act), GB ng β → SlR nt [] β sl a → VR β (evV sl v) (a.eval y) := fun β a hgb hsl =>
    opsR_of (P := P) (ys := [y]) hng hgb (by simp [hg]) (fun t _ => hsl.at_ t) y (by simp) v hy
   split at e
   ·rename_i hv
    rw [← hA] at e
    have d := IH x1 sl h outs hc hw e
    refine ⟨d.1, fun N hN hle β a w hgb hr hsl hfr m0 Q hQ => ?_⟩
    have k := key β a hgb hsl
    rw [hv] at k; simp only [VR] at k
    exact wpIn_cond_true k (WPx.wp (d.2 N hN hle β a w hgb hr hsl hfr m0 Q hQ))
   ·rename_i hv
    rw [← hB] at e
    have d := IH x2 sl h outs hc hw e
    refine ⟨d.1, fun N hN hle β a w hgb hr hsl hfr m0 Q hQ => ?_⟩
    have k := key β a hgb hsl
    rw [hv] at k; simp only [VR] at k
    exact wpIn_cond_false k (WPx.wp (d.2 N hN hle β a w hgb hr hsl hfr m0 Q hQ))
   ·cases e
  | rng x t u id B =>
   obtain ⟨y, rfl, hy, hB⟩ := cC_rng hX
   have e0 := e
   rw [hX] at e
   unfold nev at e
   simp only at e
   split at e
   ·rename_i a1 a2 b'
    rw [Bool.cond_eq_ite] at e
    split at e
    ·refine plain ?_
     rw [hX]
     exact e
    rw [Bool.cond_eq_ite] at e
    split at e
    ·rename_i hb
     rw [Bool.and_eq_true] at hb
     have h1 : t < nt := by simpa [Nat.blt_eq] using hb.1
     have h2 : u < nt := by simpa [Nat.blt_eq] using hb.2
     refine nev_rng hnt IH hy hc hw hB h1 h2 ?_
     rw [hX]
     exact e
    ·cases e
   ·cases e
  | skip => rw [hX] at e plain; exact plain e
  | reg ops => rw [hX] at e plain; exact plain e
  | dreg ops => rw [hX] at e plain; exact plain e
  | loop A =>
   have hX0 := hX
   rw [hX] at e
   obtain ⟨x, rfl, hA⟩ := cC_loop hX
   unfold nev at e
   simp only at e
   obtain ⟨l, l1, l2, l3⟩ := bindO_some e
   rw [← hA] at l1
   have d := IH x sl h l hc hw l1
   have stp : ∀ e1 ∈ l, ∀ r1, onN (fun sl h => nev ih c nt n (.loop A) sl h) e1 = some r1 → (e1.1 = .normal ∧ NDid P ng nt (.loop x) c e1.2.1 e1.2.2 r1) ∨ (e1.1 ≠ .normal ∧ r1 = [e1]) := fun e1 he1 r1 hr1 => by
    obtain ⟨ex, sl1, h1⟩ := e1
    have hst := d.1 _ he1
    cases ex with
    | normal =>
     left
     exact ⟨rfl, IH (.loop x) sl1 h1 r1 (hc.mono hst.le) hst.wf (by rw [hX0]; exact hr1)⟩
    | exit i => right; cases hr1; exact ⟨(fun q => by cases q), rfl⟩
    | ret => right; cases hr1; exact ⟨(fun q => by cases q), rfl⟩
   have nne : ∀ e1 r1, onN (fun sl h => nev ih c nt n (.loop A) sl h) e1 = some r1 → r1 ≠ [] := fun e1 r1 hr1 => by
    unfold onN at hr1
    split at hr1
    ·exact nev_ne _ _ _ _ _ hr1
    ·cases hr1; simp
   refine ⟨fun q hq => ?_, fun N hN hle β a w hgb hr hsl hfr m0 Q hQ => ?_⟩
   ·obtain ⟨e1, he1, r1, r2, r3⟩ := l3 q hq
    rcases stp e1 he1 r1 r2 with ⟨_, dd⟩ | ⟨_, rfl⟩
    ·exact (d.1 e1 he1).trans (dd.1 q r3)
    ·simp only [List.mem_singleton] at r3; subst r3; exact d.1 _ he1
   ·have hlN : ∀ e1 ∈ l, e1.2.2.n ≤ N := fun e1 he1 => by
     obtain ⟨r1, r2, r3⟩ := l2 e1 he1
     have hne := nne e1 r1 r2
     cases r1 with
     | nil => exact absurd rfl hne
     | cons q r1 =>
      rcases stp e1 he1 _ r2 with ⟨_, dd⟩ | ⟨_, hq⟩
      ·exact Nat.le_trans (dd.1 q (by simp)).le (hle q (r3 q (by simp)))
      ·have : q = e1 := by cases hq; rfl
       rw [← this]; exact hle q (r3 q (by simp))
    show LoopWp (W none) m0 P _ Q a w
    refine loop_unroll (WPx.wp (d.2 N hN hlN β a w hgb hr hsl hfr m0 _ fun e1 he1 β1 a1 w1 hP1 hs1 => ?_))
    obtain ⟨r1, r2, r3⟩ := l2 e1 he1
    rcases stp e1 he1 r1 r2 with ⟨hn, dd⟩ | ⟨hn, rfl⟩
    ·obtain ⟨ex, sl1, h1⟩ := e1
     cases hn
     show LoopWp (W none) m0 P _ Q a1 w1
     exact dd.2 N (hlN _ he1) (fun q hq => hle q (r3 q hq)) β1 a1 w1 (hgb.mono hP1.sub) hP1.hr hs1 (freshN hP1 hfr) m0 Q fun q hq β2 a2 w2 hP2 hs2 => hQ q (r3 q hq) β2 a2 w2 (hP1.trans hP2) hs2
    ·obtain ⟨ex, sl1, h1⟩ := e1
     cases ex with
     | normal => exact absurd rfl hn
     | exit i => exact hQ _ (r3 _ (by simp)) β1 a1 w1 hP1 hs1
     | ret => exact hQ _ (r3 _ (by simp)) β1 a1 w1 hP1 hs1
  | rf f ps as b => rw [hX] at e plain; exact plain e
  | exit i => rw [hX] at e plain; exact plain e
  | ret => rw [hX] at e plain; exact plain e
  | bad => rw [hX] at e plain; exact plain e
end
/-! a call -/
theorem layN_get : ∀ {l : List (Nat × AB)} {t : Tr AB}, (∀ p ∈ l, p.1 < 10000000) → ∀ id b, Tr.get (layN l t) id = some b → (id, b) ∈ l ∨ ((∀ p ∈ l, p.1 ≠ id) ∧ Tr.get t id = some b)
 | [], t, _, id, b, e => Or.inr ⟨fun p hp => absurd hp (by simp), e⟩
 | p :: l, t, hl, id, b, e => by
  have e' : Tr.get (Tr.set depth (layN l t) p.1 p.2) id = some b := by
   have : layN (p :: l) t = Tr.set depth (layN l t) p.1 p.2 := by
    show Tr.setK depth (layN l t) p.1 p.2 _root_.id = _
    rw [Tr.setK_eq]; rfl
   rw [← this]; exact e
  rw [get_set40 _ _ _ _ (hl p (by simp))] at e'
  by_cases q : p.1 = id
  ·rw [if_pos q] at e'; cases e'; left; rw [← q]; simp
  ·rw [if_neg q] at e'
   rcases layN_get (fun p hp => hl p (by simp [hp])) id b e' with r | ⟨r1, r2⟩
   ·exact Or.inl (by simp [r])
   ·refine Or.inr ⟨fun p' hp' => ?_, r2⟩
    rcases List.mem_cons.1 hp' with rfl | hp'
    ·exact q
    ·exact r1 p' hp'
theorem layN_none : ∀ {l : List (Nat × AB)} {t : Tr AB} {id : Nat}, (∀ p ∈ l, p.1 < 10000000) → (∀ p ∈ l, p.1 ≠ id) → Tr.get (layN l t) id = Tr.get t id
 | [], t, id, _, _ => rfl
 | p :: l, t, id, hl, h => by
  have : layN (p :: l) t = Tr.set depth (layN l t) p.1 p.2 := by
   show Tr.setK depth (layN l t) p.1 p.2 _root_.id = _
   rw [Tr.setK_eq]; rfl
  rw [this, get_set40 _ _ _ _ (hl p (by simp)), if_neg (h p (by simp))]
  exact layN_none (fun p hp => hl p (by simp [hp])) fun p hp => h p (by simp [hp])
theorem allGe_some {lo N : Nat} : ∀ {l : List (Nat × AB)}, allGe lo N l = true → ∀ p ∈ l, lo ≤ p.1 ∧ p.1 < N
 | [], _, p, hp => by cases hp
 | q :: l, h, p, hp => by
  unfold allGe at h
  simp only [Bool.and_eq_true] at h
  rcases List.mem_cons.1 hp with rfl | hp
  ·exact ⟨Nat.le_of_ble_eq_true h.1.1, by simpa [Nat.blt_eq] using h.1.2⟩
  ·exact allGe_some h.2 p hp
theorem subT_mem {t : Tr AB} : ∀ {l : List (Nat × AB)}, subT t l = true → ∀ p ∈ l, Tr.get t p.1 = some p.2
 | [], _, p, hp => by cases hp
 | q :: l, h, p, hp => by
  unfold subT at h
  simp only [Bool.and_eq_true] at h
  rcases List.mem_cons.1 hp with rfl | hp
  ·exact eqOB_sound h.1.1
  ·exact subT_mem h.2 p hp
theorem sameN_some {c : C} {rs : List (Nat × Option (Option Nat))} {lo N : Nat} {v : AV} {kept : List (Nat × AB)} : ∀ {es : List NEnd}, sameN c rs lo N v kept es = true → ∀ e ∈ es, ∃ h', answerN c rs e = some (v, h') ∧ e.2.2.n ≤ N ∧ subT h'.t kept = true
 | [], _, e, he => by cases he
 | e0 :: es, h, e, he => by
  unfold sameN at h
  rw [Bool.and_eq_true] at h
  rcases List.mem_cons.1 he with rfl | he
  ·have h1 := h.1
   split at h1
   ·rename_i r hr
    simp only [Bool.and_eq_true] at h1
    have := eqAV_sound _ _ h1.1.1.1
    refine ⟨r.2, by rw [hr, ← this], Nat.le_of_ble_eq_true h1.1.2, h1.2⟩
   ·cases h1
  ·exact sameN_some h.2 e he
theorem callN_sound {ih : Runner} {fuel f : Nat} {x : XF} {args : List AV} {c : C} {h : H} {v : AV} {h' : H} (hng : P.globals.size ≤ ng) (hNG : ∀ (f : Nat) (fn : Func), P.funcs[f]? = some fn → (fn.name == "runtime.NumGoroutine") = false) (ihc : CodeOk P ng ih) (hc : Ctx c h) (hw : WF h) (ht : tblOf P f = some x)
  (e : callN ih fuel x args c h = some (v, h')) : FnDid P ng f args c h v h' := by
 obtain ⟨fn, b, rs, h1, h2, h3, h4, rfl⟩ := tblOf_some ht
 unfold callN at e
 rw [Bool.cond_eq_ite] at e
 split at e
 ·rename_i hle
  simp only [Bool.and_eq_true] at hle
  have hle1 := Nat.le_of_ble_eq_true hle.1
  rw [lenN_eq] at hle1
  simp only at hle1 e
  split at e
  ·rename_i e0 es hout
   split at e
   ·rename_i r hr
    obtain ⟨rv, rh⟩ := r
    simp only at e
    rw [forceNat_eq, Bool.cond_eq_ite] at e
    split at e
    ·rename_i hchk
     simp only [Bool.and_eq_true] at hchk
     obtain ⟨⟨c1, c2⟩, c3⟩ := hchk
     simp only [Option.some.injEq, Prod.mk.injEq] at e
     obtain ⟨rfl, rfl⟩ := e
     have c3 := Nat.le_of_ble_eq_true c3
     have hN : Nat.add h.n 100000 = h.n + 100000 := rfl
     rw [hN] at c1 c2 c3 ⊢
     generalize hkp : deepN rh h.n 4 (rootsN h.n 3 rv) = kept at c1 c2 ⊢
     have hge := allGe_some c2
     have hlt10 : ∀ p ∈ kept, p.1 < 10000000 := fun p hp => by have := (hge p hp).2; omega
     have hall := sameN_some c1
     have hc' : Ctx ⟨h.n, c.vis⟩ h := ⟨Nat.le_refl _, hc.vis⟩
     have d := nev_sound (c := ⟨h.n, c.vis⟩) hng h4 ihc fuel b (setAll args 0 .nil) h (e0 :: es) hc' hw hout
     have hview : view ⟨h.n, c.vis⟩ h = view c h := rfl
     have hst : Step c h ⟨layN kept h.t, h.n + 100000⟩ := by
      refine ⟨by show h.n ≤ h.n + 100000; omega, ⟨fun id hid => ?_, c3⟩, fun id hid => Or.inl ?_⟩
      ·have hid' : h.n + 100000 ≤ id := hid
       show Tr.get (layN kept h.t) id = none
       rw [layN_none hlt10 (fun p hp q => by have := (hge p hp).2; omega)]
       exact hw.top id (by omega)
      ·exact layN_none hlt10 (fun p hp q => by have := (hge p hp).1; omega)
     refine ⟨hst, ⟨fn, h1, by rw [h2]; rfl, hNG f fn h1⟩, fun β w cargs hgb hrr hv hfr R hR => ?_⟩
     refine (callsIn_w (r := none) (n := 0)).1 (callsIn_of_wp_marks h1 h2 trivial (WPx.wp (F := W none) (d.2 (h.n + 100000) (by omega) (fun e1 he1 => (hall e1 he1).elim fun _ q => q.2.1) β _ w hgb (hrr.up hc.low) (start_slots hv hle1 h4) (fun id q1 q2 => hfr id q1 q2) 0 _ fun e1 he1 β1 a1 w1 hP1 hs1 => ?_)))
     obtain ⟨h5, q1, q2, q3⟩ := hall e1 he1
     obtain ⟨ex, sl1, h6⟩ := e1
     have hres : endRes ⟨h.n, c.vis⟩ rs (.code ex sl1 [] h6) = .call rv h5 := by
      unfold answerN at q1
      simp only at q1
      split at q1
      ·rename_i v5 h7 hx
       cases q1
       exact hx
      ·cases q1
     have main : resOf ⟨h.n, c.vis⟩ h6 sl1 rs (fun vs => retRes h6 vs) = .call rv h5 → LeavesInM (W none) 0 P fn a1.tmps R a1.defers .returning w1 := fun hres => by
      obtain ⟨vs, k1, k2⟩ := resOf_some (P := P) (df := []) (nt := fn.ntmps) (fun q => by cases q) fn.results.toList rs _ h3 hres
      have hh : h6 = h5 := by
       unfold retRes at k1
       split at k1 <;> (cases k1; rfl)
      subst hh
      rw [hs1.defers]
      obtain ⟨us, u1, u2, u3⟩ := k2 β1 a1 w1 hP1.hr hs1
      have hrun := run_results (P := P) u2 u3
      have hvr : VR β1 rv (resV us) := by
       cases vs with
       | nil =>
        simp only [retRes] at k1
        cases k1
        simp only [VRs] at u1; subst u1
        simp [VR, VRs, resV]
       | cons v1 vs' =>
        cases vs' with
        | nil =>
         simp only [retRes] at k1
         cases k1
         simp only [VRs] at u1
         obtain ⟨u, us', rfl, q1, rfl⟩ := u1
         exact q1
        | cons v2 vs' =>
         simp only [retRes] at k1
         cases k1
         have u1' := u1
         simp only [VRs] at u1
         obtain ⟨u, us', rfl, q1, u2', us'', rfl, q2, q3⟩ := u1
         simp only [VR, resV]
         exact ⟨_, rfl, by simpa using u1'⟩
      refine ⟨_, hrun, hR β1 _ w1 ?_ hvr⟩
      refine Post.wide hP1 hrr (fun id b q => q) hc.low (Nat.le_refl _) (Nat.le_refl _) q2 fun id b q => ?_
      left
      obtain ⟨v1, v2, v3⟩ := view_iff.1 q
      refine view_iff.2 ⟨?_, v2, v3⟩
      rcases layN_get hlt10 id b v1 with q5 | ⟨q5, q6⟩
      ·exact subT_mem q3 _ q5
      ·have hst1 := d.1 _ he1
       have hidlt := lt_of_get hw q6
       rcases hst1.touch id hidlt with q7 | ⟨q7, _⟩
       ·exact q7.trans q6
       ·have q7' : h.n ≤ id := q7
        omega
     cases ex with
     | normal => exact main hres
     | ret => exact main hres
     | exit i => cases hres
    ·cases e
   ·cases e
  ·cases e
 ·cases e
theorem nevM_ok {X : Exts} {M : Mf} {fuel : Nat} {fs : List Nat} (hmx : P.follows .mixedOrders = true) (hO : OpOk P ng) (hng : P.globals.size ≤ ng) (hNG : ∀ (f : Nat) (fn : Func), P.funcs[f]? = some fn → (fn.name == "runtime.NumGoroutine") = false) (hX : ExtOk P X) (hM : MemoOk P ng M) : MemoOk P ng (nevM (cC P) (tblX P X) M fuel fs) := by
 intro f args c h v h' e hc hw
 unfold nevM at e
 rw [Bool.cond_eq_ite] at e
 split at e
 ·split at e
  ·rename_i x ht
   unfold tblX at ht
   split at ht
   ·cases ht
   ·rw [Option.map_eq_some_iff] at ht
    obtain ⟨x', ht, hx⟩ := ht
    cases hx
    exact (callN_sound hng hNG (ev_sound hmx hO hng hNG hX hM fuel).1 hc hw ht e).up
  ·cases e
 ·cases e
theorem orM_ok {a b : Mf} (ha : MemoOk P ng a) (hb : MemoOk P ng b) : MemoOk P ng (orM a b) := fun f args c h v h' e hc hw => by
 unfold orM at e
 split at e
 ·rename_i r hr
  cases e
  exact ha f args c h _ _ hr hc hw
 ·exact hb f args c h v h' e hc hw
end
end Go.Proofs.YtmdceifbbmnfgaaGreatDoor.Ev
namespace Go.Proofs.YtmdceifbbmnfgaaGreatDoor.Ev
open Go
/-! renamed values -/
abbrev Rn := Nat → Option Nat
mutual
def ren (g : Rn) : AV → Option AV
 | .ptr i o => match g i with | some j => some (.ptr j o) | none => none
 | .sl i o l e c => match g i with | some j => some (.sl j o l e c) | none => none
 | .mp i => match g i with | some j => some (.mp j) | none => none
 | .fn f cs => match rens g cs with | some ds => some (.fn f ds) | none => none
 | .iface t v => match ren g v with | some u => some (.iface t u) | none => none
 | .agg vs => match rens g vs with | some us => some (.agg us) | none => none
 | .tup vs => match rens g vs with | some us => some (.tup us) | none => none
 | .bool b => some (.bool b)
 | .int k n => some (.int k n)
 | .str s => some (.str s)
 | .nilp => some .nilp
 | .nils => some .nils
 | .nilm => some .nilm
 | .nilf => some .nilf
 | .nili => some .nili
 | .fnb _ _ _ => none
 | .yld _ => none
 | .raw _ _ _ => none
 | .var _ => none
 | .top => none
def rens (g : Rn) : List AV → Option (List AV)
 | [] => some []
 | v :: vs => match ren g v with
  | some u => match rens g vs with
   | some us => some (u :: us)
   | none => none
  | none => none
end
def renEs (g : Rn) : List (AV × AV × Nat) → Option (List (AV × AV × Nat))
 | [] => some []
 | e :: es => match ren g e.1 with
  | some k => match ren g e.2.1 with
   | some v => match renEs g es with
    | some l => some ((k, v, e.2.2) :: l)
    | none => none
   | none => none
  | none => none
def renB (g : Rn) : AB → Option AB
 | .cells vs => match rens g vs with | some us => some (.cells us) | none => none
 | .map es k => match renEs g es with | some l => some (.map l k) | none => none
 | _ => none
def renL (g : Rn) : List (Nat × AB) → Option (List (Nat × AB))
 | [] => some []
 | p :: ps => match g p.1 with
  | some j => match renB g p.2 with
   | some b => match renL g ps with
    | some l => some ((j, b) :: l)
    | none => none
   | none => none
  | none => none
/-! the names are found by going along (nothing is asked of what is found) -/
def addRn {R : Type} (ρ : Tr Nat) (i j : Nat) (k : Tr Nat → R) : R := match Tr.get ρ i with
 | none => Tr.setK depth ρ i j k
 | some _ => k ρ
mutual
def mAV {R : Type} : AV → AV → Tr Nat → (Tr Nat → R) → R
 | .ptr i _, y, ρ, k => match y with | .ptr j _ => addRn ρ i j k | _ => k ρ
 | .sl i _ _ _ _, y, ρ, k => match y with | .sl j _ _ _ _ => addRn ρ i j k | _ => k ρ
 | .mp i, y, ρ, k => match y with | .mp j => addRn ρ i j k | _ => k ρ
 | .fn _ cs, y, ρ, k => match y with | .fn _ ds => mAVs cs ds ρ k | _ => k ρ
 | .iface _ v, y, ρ, k => match y with | .iface _ u => mAV v u ρ k | _ => k ρ
 | .agg cs, y, ρ, k => match y with | .agg ds => mAVs cs ds ρ k | _ => k ρ
 | .tup cs, y, ρ, k => match y with | .tup ds => mAVs cs ds ρ k | _ => k ρ
 | _, _, ρ, k => k ρ
def mAVs {R : Type} : List AV → List AV → Tr Nat → (Tr Nat → R) → R
 | [], _, ρ, k => k ρ
 | v :: vs, us, ρ, k => match us with
  | u :: us => mAV v u ρ fun ρ => mAVs vs us ρ k
  | [] => k ρ
end
def mEs {R : Type} : List (AV × AV × Nat) → List (AV × AV × Nat) → Tr Nat → (Tr Nat → R) → R
 | e :: es, d :: ds, ρ, k => mAV e.1 d.1 ρ fun ρ => mAV e.2.1 d.2.1 ρ fun ρ => mEs es ds ρ k
 | _, _, ρ, k => k ρ
def mB {R : Type} (b d : AB) (ρ : Tr Nat) (k : Tr Nat → R) : R := match b, d with
 | .cells vs, .cells us => mAVs vs us ρ k
 | .map es _, .map ds _ => mEs es ds ρ k
 | _, _ => k ρ
def mLin {R : Type} (c : C) (h : H) : List (Nat × AB) → Tr Nat → (Tr Nat → R) → R
 | [], ρ, k => k ρ
 | p :: ps, ρ, k => match Tr.get ρ p.1 with
  | some j => match getB c h j with
   | some b => mB p.2 b ρ fun ρ => mLin c h ps ρ k
   | none => mLin c h ps ρ k
  | none => mLin c h ps ρ k
def idR {R : Type} : Nat → Tr Nat → (Tr Nat → R) → R
 | 0, ρ, k => k ρ
 | n + 1, ρ, k => Tr.setK depth ρ n n fun ρ => idR n ρ k
/-! the check -/
structure RMemo where
 f : Nat
 args : List AV
 n0 : Nat
 lin : List (Nat × AB)
 v : AV
 n1 : Nat
 lout : List (Nat × AB)
def gIn (ρ : Tr Nat) (n0 : Nat) : Rn := fun i => bif Nat.blt i n0 then Tr.get ρ i else none
def gOut (ρ : Tr Nat) (n0 n : Nat) : Rn := fun i => bif Nat.blt i n0 then Tr.get ρ i else forceNat (Nat.add (Nat.sub i n0) n) some
def okIn (g : Rn) (c : C) (h : H) : List (Nat × AB) → Bool
 | [] => true
 | p :: ps => (match g p.1 with
  | some j => match getB c h j with
   | some b => match renB g p.2 with
    | some d => eqAB d b
    | none => false
   | none => false
  | none => false) && okIn g c h ps
def okNg (g : Rn) : Nat → Bool
 | 0 => true
 | n + 1 => (match g n with | some j => Nat.beq j n | none => false) && okNg g n
def rgive (m : RMemo) (h : H) (g : Rn) : Option (AV × H) := match ren g m.v with
 | some v => match renL g m.lout with
  | some l => forceNat (Nat.add (Nat.sub m.n1 m.n0) h.n) fun N => bif Nat.ble N 10000000 then some (v, ⟨layN l h.t, N⟩) else none
  | none => none
 | none => none
def rcheck (ng : Nat) (m : RMemo) (args : List AV) (c : C) (h : H) (ρ : Tr Nat) : Option (AV × H) := match rens (gIn ρ m.n0) m.args with
 | some as1 => bif eqAVs as1 args && okNg (gIn ρ m.n0) ng && okIn (gIn ρ m.n0) c h m.lin then rgive m h (gOut ρ m.n0 h.n) else none
 | none => none
def rbears (m : RMemo) : Res → Bool
 | .call v h => eqAV v m.v && Nat.beq h.n m.n1 && subT h.t m.lout
 | _ => false
def allLtR (n : Nat) : List (Nat × AB) → Bool
 | [] => true
 | p :: ps => Nat.blt p.1 n && allLtR n ps
def rwell (ng : Nat) (m : RMemo) : Bool := Nat.ble ng m.n0 && Nat.ble m.n0 10000000 && allLtR m.n0 m.lin && allGe m.n0 m.n1 m.lout
/-! it holds -/
mutual
theorem ren_vr {g : Rn} {β β' : Bet} (hg : ∀ i j L, g i = some j → β i = some L → β' j = some L) : ∀ (v v' : AV) (u : Value), ren g v = some v' → VR β v u → VR β' v' u
 | .ptr i o, v', u, e, h => by
  simp only [ren] at e
  split at e
  ·rename_i j hj
   cases e
   simp only [VR] at h ⊢
   obtain ⟨L, h1, h2⟩ := h
   exact ⟨L, hg _ _ _ hj h1, h2⟩
  ·cases e
 | .sl i o l k c, v', u, e, h => by
  simp only [ren] at e
  split at e
  ·rename_i j hj
   cases e
   simp only [VR] at h ⊢
   obtain ⟨L, o', cp, h1, h2⟩ := h
   exact ⟨L, o', cp, hg _ _ _ hj h1, h2⟩
  ·cases e
 | .mp i, v', u, e, h => by
  simp only [ren] at e
  split at e
  ·rename_i j hj
   cases e
   simp only [VR] at h ⊢
   obtain ⟨L, h1, h2⟩ := h
   exact ⟨L, hg _ _ _ hj h1, h2⟩
  ·cases e
 | .fn f cs, v', u, e, h => by
  simp only [ren] at e
  split at e
  ·rename_i ds hd
   cases e
   simp only [VR] at h ⊢
   obtain ⟨xs, h1, h2⟩ := h
   exact ⟨xs, h1, rens_vr hg _ _ _ hd h2⟩
  ·cases e
 | .iface t x, v', u, e, h => by
  simp only [ren] at e
  split at e
  ·rename_i d hd
   cases e
   simp only [VR] at h ⊢
   obtain ⟨y, h1, h2⟩ := h
   exact ⟨y, h1, ren_vr hg _ _ _ hd h2⟩
  ·cases e
 | .agg cs, v', u, e, h => by
  simp only [ren] at e
  split at e
  ·rename_i ds hd
   cases e
   simp only [VR] at h ⊢
   obtain ⟨xs, h1, h2⟩ := h
   exact ⟨xs, h1, rens_vr hg _ _ _ hd h2⟩
  ·cases e
 | .tup cs, v', u, e, h => by
  simp only [ren] at e
  split at e
  ·rename_i ds hd
   cases e
   simp only [VR] at h ⊢
   obtain ⟨xs, h1, h2⟩ := h
   exact ⟨xs, h1, rens_vr hg _ _ _ hd h2⟩
  ·cases e
 | .bool b, v', u, e, h => by simp only [ren, Option.some.injEq] at e; subst e; simpa [VR] using h
 | .int k n, v', u, e, h => by simp only [ren, Option.some.injEq] at e; subst e; simpa [VR] using h
 | .str s, v', u, e, h => by simp only [ren, Option.some.injEq] at e; subst e; simpa [VR] using h
 | .nilp, v', u, e, h => by simp only [ren, Option.some.injEq] at e; subst e; simpa [VR] using h
 | .nils, v', u, e, h => by simp only [ren, Option.some.injEq] at e; subst e; simpa [VR] using h
 | .nilm, v', u, e, h => by simp only [ren, Option.some.injEq] at e; subst e; simpa [VR] using h
 | .nilf, v', u, e, h => by simp only [ren, Option.some.injEq] at e; subst e; simpa [VR] using h
 | .nili, v', u, e, h => by simp only [ren, Option.some.injEq] at e; subst e; simpa [VR] using h
 | .fnb _ _ _, v', u, e, h => by simp [ren] at e
 | .yld _, v', u, e, h => by simp [ren] at e
 | .raw _ _ _, v', u, e, h => by simp [ren] at e
 | .var _, v', u, e, h => by simp [ren] at e
 | .top, v', u, e, h => by simp [ren] at e
theorem rens_vr {g : Rn} {β β' : Bet} (hg : ∀ i j L, g i = some j → β i = some L → β' j = some L) : ∀ (vs vs' : List AV) (us : List Value), rens g vs = some vs' → VRs β vs us → VRs β' vs' us
 | [], vs', us, e, h => by simp only [rens, Option.some.injEq] at e; subst e; simpa [VRs] using h
 | v :: vs, vs', us, e, h => by
  simp only [rens] at e
  split at e
  ·rename_i u hu
   split at e
   ·rename_i ws hw
    cases e
    simp only [VRs] at h ⊢
    obtain ⟨c, cs, h1, h2, h3⟩ := h
    exact ⟨c, cs, h1, ren_vr hg _ _ _ hu h2, rens_vr hg _ _ _ hw h3⟩
   ·cases e
  ·cases e
end
mutual
theorem ren_back {g : Rn} {β β' : Bet} (hg : ∀ i j L, g i = some j → β' j = some L → β i = some L) : ∀ (v v' : AV) (u : Value), ren g v = some v' → VR β' v' u → VR β v u
 | .ptr i o, v', u, e, h => by
  simp only [ren] at e
  split at e
  ·rename_i j hj
   cases e
   simp only [VR] at h ⊢
   obtain ⟨L, h1, h2⟩ := h
   exact ⟨L, hg _ _ _ hj h1, h2⟩
  ·cases e
 | .sl i o l k c, v', u, e, h => by
  simp only [ren] at e
  split at e
  ·rename_i j hj
   cases e
   simp only [VR] at h ⊢
   obtain ⟨L, o', cp, h1, h2⟩ := h
   exact ⟨L, o', cp, hg _ _ _ hj h1, h2⟩
  ·cases e
 | .mp i, v', u, e, h => by
  simp only [ren] at e
  split at e
  ·rename_i j hj
   cases e
   simp only [VR] at h ⊢
   obtain ⟨L, h1, h2⟩ := h
   exact ⟨L, hg _ _ _ hj h1, h2⟩
  ·cases e
 | .fn f cs, v', u, e, h => by
  simp only [ren] at e
  split at e
  ·rename_i ds hd
   cases e
   simp only [VR] at h ⊢
   obtain ⟨xs, h1, h2⟩ := h
   exact ⟨xs, h1, rens_back hg _ _ _ hd h2⟩
  ·cases e
 | .iface t x, v', u, e, h => by
  simp only [ren] at e
  split at e
  ·rename_i d hd
   cases e
   simp only [VR] at h ⊢
   obtain ⟨y, h1, h2⟩ := h
   exact ⟨y, h1, ren_back hg _ _ _ hd h2⟩
  ·cases e
 | .agg cs, v', u, e, h => by
  simp only [ren] at e
  split at e
  ·rename_i ds hd
   cases e
   simp only [VR] at h ⊢
   obtain ⟨xs, h1, h2⟩ := h
   exact ⟨xs, h1, rens_back hg _ _ _ hd h2⟩
  ·cases e
 | .tup cs, v', u, e, h => by
  simp only [ren] at e
  split at e
  ·rename_i ds hd
   cases e
   simp only [VR] at h ⊢
   obtain ⟨xs, h1, h2⟩ := h
   exact ⟨xs, h1, rens_back hg _ _ _ hd h2⟩
  ·cases e
 | .bool b, v', u, e, h => by simp only [ren, Option.some.injEq] at e; subst e; simpa [VR] using h
 | .int k n, v', u, e, h => by simp only [ren, Option.some.injEq] at e; subst e; simpa [VR] using h
 | .str s, v', u, e, h => by simp only [ren, Option.some.injEq] at e; subst e; simpa [VR] using h
 | .nilp, v', u, e, h => by simp only [ren, Option.some.injEq] at e; subst e; simpa [VR] using h
 | .nils, v', u, e, h => by simp only [ren, Option.some.injEq] at e; subst e; simpa [VR] using h
 | .nilm, v', u, e, h => by simp only [ren, Option.some.injEq] at e; subst e; simpa [VR] using h
 | .nilf, v', u, e, h => by simp only [ren, Option.some.injEq] at e; subst e; simpa [VR] using h
 | .nili, v', u, e, h => by simp only [ren, Option.some.injEq] at e; subst e; simpa [VR] using h
 | .fnb _ _ _, v', u, e, h => by simp [ren] at e
 | .yld _, v', u, e, h => by simp [ren] at e
 | .raw _ _ _, v', u, e, h => by simp [ren] at e
 | .var _, v', u, e, h => by simp [ren] at e
 | .top, v', u, e, h => by simp [ren] at e
theorem rens_back {g : Rn} {β β' : Bet} (hg : ∀ i j L, g i = some j → β' j = some L → β i = some L) : ∀ (vs vs' : List AV) (us : List Value), rens g vs = some vs' → VRs β' vs' us → VRs β vs us
 | [], vs', us, e, h => by simp only [rens, Option.some.injEq] at e; subst e; simpa [VRs] using h
 | v :: vs, vs', us, e, h => by
  simp only [rens] at e
  split at e
  ·rename_i u hu
   split at e
   ·rename_i ws hw
    cases e
    simp only [VRs] at h ⊢
    obtain ⟨c, cs, h1, h2, h3⟩ := h
    exact ⟨c, cs, h1, ren_back hg _ _ _ hu h2, rens_back hg _ _ _ hw h3⟩
   ·cases e
  ·cases e
end
theorem rens_at {g : Rn} : ∀ {vs vs' : List AV}, rens g vs = some vs' → vs.length = vs'.length ∧ ∀ i : Nat, (∀ v, vs[i]? = some v → ∃ v', vs'[i]? = some v' ∧ ren g v = some v') ∧ ∀ v', vs'[i]? = some v' → ∃ v, vs[i]? = some v ∧ ren g v = some v'
 | [], vs', e => by simp only [rens, Option.some.injEq] at e; subst e; simp
 | v :: vs, vs', e => by
  simp only [rens] at e
  split at e
  ·rename_i u hu
   split at e
   ·rename_i ws hw
    cases e
    obtain ⟨h1, h2⟩ := rens_at hw
    refine ⟨by simp [h1], fun i => ?_⟩
    cases i with
    | zero => simp [hu]
    | succ i => simpa using h2 i
   ·cases e
  ·cases e
theorem renEs_er {g : Rn} {β β' : Bet} (hg : ∀ i j L, g i = some j → β i = some L → β' j = some L) : ∀ {es es' : List (AV × AV × Nat)} {ms : List MapEntry}, renEs g es = some es' → ER β es ms → ER β' es' ms
 | [], es', ms, e, h => by simp only [renEs, Option.some.injEq] at e; subst e; exact h
 | x :: es, es', ms, e, h => by
  simp only [renEs] at e
  split at e
  ·rename_i k hk
   split at e
   ·rename_i v hv
    split at e
    ·rename_i l hl
     cases e
     obtain ⟨y, ys, h1, h2, h3, h4, h5⟩ := h
     exact ⟨y, ys, h1, ren_vr hg _ _ _ hk h2, ren_vr hg _ _ _ hv h3, h4, renEs_er hg hl h5⟩
    ·cases e
   ·cases e
  ·cases e
theorem renEs_back {g : Rn} {β β' : Bet} (hg : ∀ i j L, g i = some j → β' j = some L → β i = some L) : ∀ {es es' : List (AV × AV × Nat)} {ms : List MapEntry}, renEs g es = some es' → ER β' es' ms → ER β es ms
 | [], es', ms, e, h => by simp only [renEs, Option.some.injEq] at e; subst e; exact h
 | x :: es, es', ms, e, h => by
  simp only [renEs] at e
  split at e
  ·rename_i k hk
   split at e
   ·rename_i v hv
    split at e
    ·rename_i l hl
     cases e
     obtain ⟨y, ys, h1, h2, h3, h4, h5⟩ := h
     exact ⟨y, ys, h1, ren_back hg _ _ _ hk h2, ren_back hg _ _ _ hv h3, h4, renEs_back hg hl h5⟩
    ·cases e
   ·cases e
  ·cases e
theorem renB_br {g : Rn} {β β' : Bet} {L : Loc} {w : World} (hg : ∀ i j L, g i = some j → β i = some L → β' j = some L) {b b' : AB} (e : renB g b = some b') (h : BR β L w b) : BR β' L w b' := by
 cases b <;> simp only [renB] at e <;> try (cases e; done)
 ·split at e
  ·rename_i us hu
   cases e
   obtain ⟨cur, t, h1, h2, h3⟩ := h
   obtain ⟨r1, r2⟩ := rens_at hu
   refine ⟨cur, t, h1, r1 ▸ h2, fun i v hi => ?_⟩
   obtain ⟨v0, q1, q2⟩ := (r2 i).2 v hi
   obtain ⟨c, h4, h5⟩ := h3 i v0 q1
   exact ⟨c, h4, ren_vr hg _ _ _ q2 h5⟩
  ·cases e
 ·split at e
  ·rename_i l hl
   cases e
   obtain ⟨ces, h1, h2⟩ := h
   exact ⟨ces, h1, renEs_er hg hl h2⟩
  ·cases e
theorem renB_back {g : Rn} {β β' : Bet} {L : Loc} {w : World} (hg : ∀ i j L, g i = some j → β' j = some L → β i = some L) {b b' : AB} (e : renB g b = some b') (h : BR β' L w b') : BR β L w b := by
 cases b <;> simp only [renB] at e <;> try (cases e; done)
 ·split at e
  ·rename_i us hu
   cases e
   obtain ⟨cur, t, h1, h2, h3⟩ := h
   obtain ⟨r1, r2⟩ := rens_at hu
   refine ⟨cur, t, h1, r1 ▸ h2, fun i v hi => ?_⟩
   obtain ⟨v0, q1, q2⟩ := (r2 i).1 v hi
   obtain ⟨c, h4, h5⟩ := h3 i v0 q1
   exact ⟨c, h4, ren_back hg _ _ _ q2 h5⟩
  ·cases e
 ·split at e
  ·rename_i l hl
   cases e
   obtain ⟨ces, h1, h2⟩ := h
   exact ⟨ces, h1, renEs_back hg hl h2⟩
  ·cases e
theorem renB_live {g : Rn} {b b' : AB} (e : renB g b = some b') : b ≠ .dead ∧ b' ≠ .dead := by
 cases b <;> simp only [renB] at e <;> try (cases e; done)
 ·split at e
  ·cases e; exact ⟨(fun q => by cases q), (fun q => by cases q)⟩
  ·cases e
 ·split at e
  ·cases e; exact ⟨(fun q => by cases q), (fun q => by cases q)⟩
  ·cases e
theorem renL_mem {g : Rn} : ∀ {l l' : List (Nat × AB)}, renL g l = some l' → ∀ p' ∈ l', ∃ p ∈ l, g p.1 = some p'.1 ∧ renB g p.2 = some p'.2
 | [], l', e, p', h => by simp only [renL, Option.some.injEq] at e; subst e; cases h
 | p :: ps, l', e, p', h => by
  simp only [renL] at e
  split at e
  ·rename_i j hj
   split at e
   ·rename_i b hb
    split at e
    ·rename_i l hl
     cases e
     rcases List.mem_cons.1 h with rfl | h
     ·exact ⟨p, by simp, hj, hb⟩
     ·obtain ⟨q, q1, q2⟩ := renL_mem hl p' h
      exact ⟨q, by simp [q1], q2⟩
    ·cases e
   ·cases e
  ·cases e
theorem okIn_mem {g : Rn} {c : C} {h : H} : ∀ {l : List (Nat × AB)}, okIn g c h l = true → ∀ p ∈ l, ∃ j b, g p.1 = some j ∧ getB c h j = some b ∧ renB g p.2 = some b
 | [], _, p, hp => by cases hp
 | q :: l, e, p, hp => by
  unfold okIn at e
  rw [Bool.and_eq_true] at e
  rcases List.mem_cons.1 hp with rfl | hp
  ·have e1 := e.1
   split at e1
   ·rename_i j hj
    split at e1
    ·rename_i b hb
     split at e1
     ·rename_i d hd
      have : some d = some b := eqOB_sound (a := some d) (b := some b) e1
      cases this
      exact ⟨j, _, hj, hb, hd⟩
     ·cases e1
    ·cases e1
   ·cases e1
  ·exact okIn_mem e.2 p hp
theorem okNg_at {g : Rn} : ∀ {n : Nat}, okNg g n = true → ∀ i, i < n → g i = some i
 | 0, _, i, h => by omega
 | n + 1, e, i, h => by
  unfold okNg at e
  rw [Bool.and_eq_true] at e
  by_cases q : i = n
  ·subst q
   have e1 := e.1
   split at e1
   ·rename_i j hj
    rw [hj, Nat.eq_of_beq_eq_true e1]
   ·cases e1
  ·exact okNg_at e.2 i (by omega)
theorem allLtR_mem {n : Nat} : ∀ {l : List (Nat × AB)}, allLtR n l = true → ∀ p ∈ l, p.1 < n
 | [], _, p, hp => by cases hp
 | q :: l, e, p, hp => by
  unfold allLtR at e
  rw [Bool.and_eq_true] at e
  rcases List.mem_cons.1 hp with rfl | hp
  ·simpa [Nat.blt_eq] using e.1
  ·exact allLtR_mem e.2 p hp
theorem mkT_mem : ∀ {l : List (Nat × AB)}, (∀ p ∈ l, p.1 < 10000000) → ∀ id b, Tr.get (mkT l) id = some b → (id, b) ∈ l
 | [], _, id, b, e => by
  have : Tr.get (Tr.nil : Tr AB) id = some b := e
  rw [Tr.get_nil] at this; cases this
 | p :: l, hl, id, b, e => by
  have : mkT (p :: l) = Tr.set depth (mkT l) p.1 p.2 := rfl
  rw [this, get_set40 _ _ _ _ (hl p (by simp))] at e
  by_cases q : p.1 = id
  ·rw [if_pos q] at e; cases e; rw [← q]; simp
  ·rw [if_neg q] at e
   exact List.mem_cons_of_mem _ (mkT_mem (fun p hp => hl p (by simp [hp])) id b e)
section
variable {P : Program} {ng : Nat}
theorem rgive_some {m : RMemo} {h : H} {g : Rn} {v : AV} {h' : H} (e : rgive m h g = some (v, h')) : ren g m.v = some v ∧ ∃ l, renL g m.lout = some l ∧ h' = ⟨layN l h.t, m.n1 - m.n0 + h.n⟩ ∧ m.n1 - m.n0 + h.n ≤ 10000000 := by
 unfold rgive at e
 split at e
 ·rename_i v1 hv
  split at e
  ·rename_i l hl
   rw [forceNat_eq, Bool.cond_eq_ite] at e
   split at e
   ·rename_i hN
    have hN := Nat.le_of_ble_eq_true hN
    simp only [Option.some.injEq, Prod.mk.injEq] at e
    obtain ⟨rfl, rfl⟩ := e
    exact ⟨hv, l, hl, rfl, hN⟩
   ·cases e
  ·cases e
 ·cases e
theorem rcheck_ok {m : RMemo} {args : List AV} {c : C} {h h1 : H} {v : AV} {h' : H} {ρ : Tr Nat} (hw0 : rwell ng m = true)
  (hd : UpDid P ng (.fn m.f) m.args ⟨m.n0, [(0, big)]⟩ ⟨mkT m.lin, m.n0⟩ m.v h1) (hn1 : h1.n = m.n1) (hsub : subT h1.t m.lout = true)
  (e : rcheck ng m args c h ρ = some (v, h')) (hc : Ctx c h) (hw : WF h) : UpDid P ng (.fn m.f) args c h v h' := by
 unfold rwell at hw0
 simp only [Bool.and_eq_true] at hw0
 obtain ⟨⟨⟨g1, g2⟩, g3⟩, g4⟩ := hw0
 have g1 := Nat.le_of_ble_eq_true g1
 have g2 := Nat.le_of_ble_eq_true g2
 have g3 := allLtR_mem g3
 have g4 := allGe_some g4
 unfold rcheck at e
 split at e
 ·rename_i as1 has
  rw [Bool.cond_eq_ite] at e
  split at e
  ·rename_i hchk
   simp only [Bool.and_eq_true] at hchk
   obtain ⟨⟨k1, k2⟩, k3⟩ := hchk
   have k1 := eqAVs_sound _ _ k1
   subst k1
   have k2 := okNg_at k2
   have k3 := okIn_mem k3
   obtain ⟨e1, l, e2, rfl, e3⟩ := rgive_some e
   have hle01 : m.n0 ≤ m.n1 := by have := hd.1.le; rw [hn1] at this; exact this
   have gin : ∀ i j, gIn ρ m.n0 i = some j → i < m.n0 ∧ gOut ρ m.n0 h.n i = some j := fun i j q => by
    unfold gIn at q
    rw [Bool.cond_eq_ite] at q
    split at q
    ·rename_i hb
     refine ⟨by simpa [Nat.blt_eq] using hb, ?_⟩
     unfold gOut
     rw [hb]; exact q
    ·cases q
   have gout : ∀ i j, gOut ρ m.n0 h.n i = some j → (i < m.n0 ∧ gIn ρ m.n0 i = some j) ∨ (m.n0 ≤ i ∧ j = i - m.n0 + h.n) := fun i j q => by
    unfold gOut at q
    rw [Bool.cond_eq_ite] at q
    split at q
    ·rename_i hb
     refine Or.inl ⟨by simpa [Nat.blt_eq] using hb, ?_⟩
     unfold gIn
     rw [hb]; exact q
    ·rename_i hb
     rw [forceNat_eq] at q
     cases q
     refine Or.inr ⟨?_, rfl⟩
     rcases Nat.lt_or_ge i m.n0 with x | x
     ·exact absurd (by simpa [Nat.blt_eq] using x) hb
     ·exact x
   -- what is laid
   have hl10 : ∀ p ∈ l, ∃ p0 ∈ m.lout, p.1 = p0.1 - m.n0 + h.n ∧ m.n0 ≤ p0.1 ∧ p0.1 < m.n1 ∧ renB (gOut ρ m.n0 h.n) p0.2 = some p.2 := fun p hp => by
    obtain ⟨p0, q1, q2, q3⟩ := renL_mem e2 p hp
    obtain ⟨q4, q5⟩ := g4 p0 q1
    rcases gout _ _ q2 with ⟨x, _⟩ | ⟨_, x⟩
    ·omega
    ·exact ⟨p0, q1, x, q4, q5, q3⟩
   have hl10' : ∀ p ∈ l, h.n ≤ p.1 ∧ p.1 < m.n1 - m.n0 + h.n := fun p hp => by
    obtain ⟨p0, _, q2, q3, q4, _⟩ := hl10 p hp
    omega
   have hlt : ∀ p ∈ l, p.1 < 10000000 := fun p hp => by have := (hl10' p hp).2; omega
   have low : ∀ id, id < h.n → Tr.get (layN l h.t) id = Tr.get h.t id := fun id hid => layN_none hlt fun p hp q => by have := (hl10' p hp).1; omega
   have hst : Step c h ⟨layN l h.t, m.n1 - m.n0 + h.n⟩ := by
    refine ⟨by show h.n ≤ m.n1 - m.n0 + h.n; omega, ⟨fun id hid => ?_, e3⟩, fun id hid => Or.inl (low id hid)⟩
    have hid' : m.n1 - m.n0 + h.n ≤ id := hid
    show Tr.get (layN l h.t) id = none
    rw [layN_none hlt (fun p hp q => by have := (hl10' p hp).2; omega)]
    exact hw.top id (by omega)
   refine ⟨hst, fun β w cargs hgb hr hv hfr S hS r n o a K Q hK => ?_⟩
   have hS' : S = callFunc m.f cargs.toArray := hS
   -- the small heap's blocks
   let β0 : Bet := fun i => (gIn ρ m.n0 i).bind β
   have b0 : ∀ i j, gIn ρ m.n0 i = some j → β0 i = β j := fun i j q => by show (gIn ρ m.n0 i).bind β = _; rw [q]; rfl
   have b0hi : ∀ i, m.n0 ≤ i → β0 i = none := fun i hi => by
    show (gIn ρ m.n0 i).bind β = none
    cases q : gIn ρ m.n0 i with
    | none => rfl
    | some j => have := (gin i j q).1; omega
   have hmem0 : ∀ id b, view ⟨m.n0, [(0, big)]⟩ ⟨mkT m.lin, m.n0⟩ id = some b → (id, b) ∈ m.lin := fun id b q =>
    mkT_mem (fun p hp => by have := g3 p hp; omega) id b (getB_view q).1
   have hr0 : HR m.n0 β0 (view ⟨m.n0, [(0, big)]⟩ ⟨mkT m.lin, m.n0⟩) w := by
    refine ⟨fun id b q => ?_, fun i j b d L M q1 q2 _ _ _ => Or.inr ⟨g3 _ (hmem0 i b q1), g3 _ (hmem0 j d q2)⟩⟩
    obtain ⟨j, b', q1, q2, q3⟩ := k3 _ (hmem0 id b q)
    obtain ⟨L, q4, q5, q6⟩ := hr.at_ j b' (view_live q2 (renB_live q3).2)
    refine ⟨L, (b0 id j q1).trans q4, q5, renB_back (fun i j L h1 h2 => (b0 i j h1).trans h2) q3 q6⟩
   have hgb0 : GB ng β0 := fun g hg => by
    obtain ⟨s, q⟩ := hgb g hg
    exact ⟨s, (b0 g g (k2 g hg)).trans q⟩
   have hv0 : VRs β0 m.args cargs := rens_back (fun i j L h1 h2 => (b0 i j h1).trans h2) _ _ _ has hv
   refine hd.2 β0 w cargs hgb0 hr0 hv0 (fun id q1 q2 => b0hi id q1) S hS r n o a K Q fun β1 val w' hP hvr => ?_
   -- back
   let β' : Bet := fun id => if h.n ≤ id ∧ id < m.n1 - m.n0 + h.n then β1 (id - h.n + m.n0) else β id
   have bnew : ∀ id, h.n ≤ id → id < m.n1 - m.n0 + h.n → β' id = β1 (id - h.n + m.n0) := fun id q1 q2 => if_pos ⟨q1, q2⟩
   have bold : ∀ id, ¬ (h.n ≤ id ∧ id < m.n1 - m.n0 + h.n) → β' id = β id := fun id q => if_neg q
   have hsub' : Sub β β' := fun id L q => by
    by_cases x : h.n ≤ id ∧ id < m.n1 - m.n0 + h.n
    ·rw [hfr id x.1 x.2] at q; cases q
    ·rw [bold id x]; exact q
   have tr : ∀ i j L, gOut ρ m.n0 h.n i = some j → β1 i = some L → β' j = some L := fun i j L q1 q2 => by
    rcases gout i j q1 with ⟨x1, x2⟩ | ⟨x1, x2⟩
    ·cases hb : β0 i with
     | none => have := (hP.fresh i L q2 hb).1; have : m.n0 ≤ i := this; omega
     | some L' =>
      have := hP.sub i L' hb
      rw [this] at q2; cases q2
      rw [b0 i j x2] at hb
      exact hsub' j _ hb
    ·have h2 := hP.fresh i L q2 (b0hi i x1)
     have h3 : i < h1.n := h2.2
     rw [hn1] at h3
     rw [bnew j (by omega) (by omega), show j - h.n + m.n0 = i by omega]
     exact q2
   have fr0 : ∀ B, B < w.heap.size → w'.heap[B]? = w.heap[B]? := fun B hB => hP.frame B hB fun id b L q1 q2 _ => by
    have := g3 _ (hmem0 id b q2)
    have q1' : m.n0 ≤ id := q1
    omega
   have newb : ∀ id, h.n ≤ id → id < m.n1 - m.n0 + h.n → ∀ L, β' id = some L → w.heap.size ≤ L.blk := fun id q1 q2 L q3 => by
    rw [bnew id q1 q2] at q3
    rcases hP.news _ L q3 (b0hi _ (by omega)) with x | ⟨i, b, M, y1, y2, _⟩
    ·exact x
    ·have := g3 _ (hmem0 i b y2)
     have y1' : m.n0 ≤ i := y1
     omega
   have vw : ∀ id b, view c ⟨layN l h.t, m.n1 - m.n0 + h.n⟩ id = some b → (id < h.n ∧ view c h id = some b) ∨ (h.n ≤ id ∧ id < m.n1 - m.n0 + h.n ∧ ∃ b1, view ⟨m.n0, [(0, big)]⟩ h1 (id - h.n + m.n0) = some b1 ∧ renB (gOut ρ m.n0 h.n) b1 = some b) := fun id b q => by
    obtain ⟨q1, q2, q3⟩ := view_iff.1 q
    rcases Nat.lt_or_ge id h.n with x | x
    ·left
     refine ⟨x, view_iff.2 ⟨?_, q2, q3⟩⟩
     rw [← low id x]; exact q1
    ·right
     rcases layN_get hlt id b q1 with y | ⟨_, y⟩
     ·obtain ⟨p0, z1, z2, z3, z4, z5⟩ := hl10 _ y
      have z2 : id = p0.1 - m.n0 + h.n := z2
      have hid : id - h.n + m.n0 = p0.1 := by omega
      refine ⟨x, by omega, p0.2, view_iff.2 ⟨?_, ?_, (renB_live z5).1⟩, z5⟩
      ·rw [hid]; exact subT_mem hsub _ z1
      ·simp only [seen]
       have h0 : Nat.ble 0 (id - h.n + m.n0) = true := by simp
       rw [h0]
       have : m.n1 ≤ 10000000 := by have := hd.1.wf.small; rw [hn1] at this; exact this
       have : id - h.n + m.n0 < big := by unfold big; omega
       simpa [Nat.blt_eq] using this
     ·rw [hw.top id x] at y; cases y
   refine hK β' val w' ⟨by show h.n ≤ m.n1 - m.n0 + h.n; omega, hsub', fun id L q1 q2 => ?_, ⟨fun id b q => ?_, fun i j b d L M q1 q2 q3 q4 q5 => ?_⟩, hP.os, hP.tape, hP.output, hP.size, fun B hB _ => fr0 B hB, fun id L q1 q2 => ?_, fun id b q => ?_⟩ (ren_vr tr _ _ _ e1 hvr)
   ·by_cases x : h.n ≤ id ∧ id < m.n1 - m.n0 + h.n
    ·exact x
    ·rw [bold id x, q2] at q1; cases q1
   ·rcases vw id b q with ⟨x1, x2⟩ | ⟨x1, x2, b1, x3, x4⟩
    ·obtain ⟨L, y1, y2, y3⟩ := hr.at_ id b x2
     exact ⟨L, hsub' id L y1, Nat.lt_of_lt_of_le y2 hP.size, y3.mono hsub' (fr0 _ y2)⟩
    ·obtain ⟨L, y1, y2, y3⟩ := hP.hr.at_ _ b1 x3
     exact ⟨L, (bnew id x1 x2).trans y1, y2, renB_br tr x4 y3⟩
   ·have oldL : ∀ id b L, id < h.n → view c h id = some b → β' id = some L → β id = some L ∧ L.blk < w.heap.size := fun id b L z1 z2 z3 => by
     rw [bold id (by omega)] at z3
     obtain ⟨L', y1, y2, _⟩ := hr.at_ id b z2
     rw [z3] at y1; cases y1
     exact ⟨z3, y2⟩
    rcases vw i b q1 with ⟨x1, x2⟩ | ⟨x1, x2, b1, x3, x4⟩
    ·obtain ⟨y1, y2⟩ := oldL i b L x1 x2 q3
     rcases vw j d q2 with ⟨z1, z2⟩ | ⟨z1, z2, b2, z3, z4⟩
     ·obtain ⟨y3, y4⟩ := oldL j d M z1 z2 q4
      exact hr.inj i j b d L M x2 z2 y1 y3 q5
     ·have := newb j z1 z2 M q4; omega
    ·rcases vw j d q2 with ⟨z1, z2⟩ | ⟨z1, z2, b2, z3, z4⟩
     ·obtain ⟨y3, y4⟩ := oldL j d M z1 z2 q4
      have := newb i x1 x2 L q3; omega
     ·rw [bnew i x1 x2] at q3
      rw [bnew j z1 z2] at q4
      rcases hP.hr.inj _ _ b1 b2 L M x3 z3 q3 q4 q5 with y | ⟨y, _⟩
      ·left; omega
      ·have y' : i - h.n + m.n0 < m.n0 := y
       omega
   ·by_cases x : h.n ≤ id ∧ id < m.n1 - m.n0 + h.n
    ·exact Or.inl (newb id x.1 x.2 L q1)
    ·rw [bold id x, q2] at q1; cases q1
   ·rcases vw id b q with ⟨x1, x2⟩ | ⟨x1, x2, _⟩
    ·exact Or.inl ⟨b, x2⟩
    ·exact Or.inr (hfr id x1 x2)
  ·cases e
 ·cases e
theorem addRn_eq {R : Type} (ρ : Tr Nat) (i j : Nat) (k : Tr Nat → R) : ∃ ρ', addRn ρ i j k = k ρ' := by
 unfold addRn
 split
 ·exact ⟨_, Tr.setK_eq _ _ _ _ _⟩
 ·exact ⟨_, rfl⟩
mutual
theorem mAV_eq {R : Type} : ∀ (v u : AV) (ρ : Tr Nat) (k : Tr Nat → R), ∃ ρ', mAV v u ρ k = k ρ'
 | .ptr i o, u, ρ, k => by
  cases u <;> simp only [mAV] <;> first | exact addRn_eq _ _ _ _ | exact ⟨_, rfl⟩
 | .sl i o l e c, u, ρ, k => by
  cases u <;> simp only [mAV] <;> first | exact addRn_eq _ _ _ _ | exact ⟨_, rfl⟩
 | .mp i, u, ρ, k => by
  cases u <;> simp only [mAV] <;> first | exact addRn_eq _ _ _ _ | exact ⟨_, rfl⟩
 | .fn f cs, u, ρ, k => by
  cases u <;> simp only [mAV] <;> first | exact mAVs_eq _ _ _ _ | exact ⟨_, rfl⟩
 | .iface t v, u, ρ, k => by
  cases u <;> simp only [mAV] <;> first | exact mAV_eq _ _ _ _ | exact ⟨_, rfl⟩
 | .agg cs, u, ρ, k => by
  cases u <;> simp only [mAV] <;> first | exact mAVs_eq _ _ _ _ | exact ⟨_, rfl⟩
 | .tup cs, u, ρ, k => by
  cases u <;> simp only [mAV] <;> first | exact mAVs_eq _ _ _ _ | exact ⟨_, rfl⟩
 | .bool _, u, ρ, k => ⟨ρ, by simp only [mAV]⟩
 | .int _ _, u, ρ, k => ⟨ρ, by simp only [mAV]⟩
 | .str _, u, ρ, k => ⟨ρ, by simp only [mAV]⟩
 | .nilp, u, ρ, k => ⟨ρ, by simp only [mAV]⟩
 | .nils, u, ρ, k => ⟨ρ, by simp only [mAV]⟩
 | .nilm, u, ρ, k => ⟨ρ, by simp only [mAV]⟩
 | .nilf, u, ρ, k => ⟨ρ, by simp only [mAV]⟩
 | .nili, u, ρ, k => ⟨ρ, by simp only [mAV]⟩
 | .fnb _ _ _, u, ρ, k => ⟨ρ, by simp only [mAV]⟩
 | .yld _, u, ρ, k => ⟨ρ, by simp only [mAV]⟩
 | .raw _ _ _, u, ρ, k => ⟨ρ, by simp only [mAV]⟩
 | .var _, u, ρ, k => ⟨ρ, by simp only [mAV]⟩
 | .top, u, ρ, k => ⟨ρ, by simp only [mAV]⟩
theorem mAVs_eq {R : Type} : ∀ (vs us : List AV) (ρ : Tr Nat) (k : Tr Nat → R), ∃ ρ', mAVs vs us ρ k = k ρ'
 | [], us, ρ, k => ⟨ρ, by simp only [mAVs]⟩
 | v :: vs, [], ρ, k => ⟨ρ, by simp only [mAVs]⟩
 | v :: vs, u :: us, ρ, k => by
  simp only [mAVs]
  obtain ⟨ρ1, e⟩ := mAV_eq v u ρ fun ρ => mAVs vs us ρ k
  rw [e]
  exact mAVs_eq vs us ρ1 k
end
theorem mEs_eq {R : Type} : ∀ (es ds : List (AV × AV × Nat)) (ρ : Tr Nat) (k : Tr Nat → R), ∃ ρ', mEs es ds ρ k = k ρ'
 | [], ds, ρ, k => ⟨ρ, by simp only [mEs]⟩
 | e :: es, [], ρ, k => ⟨ρ, by simp only [mEs]⟩
 | e :: es, d :: ds, ρ, k => by
  simp only [mEs]
  obtain ⟨ρ1, h1⟩ := mAV_eq e.1 d.1 ρ fun ρ => mAV e.2.1 d.2.1 ρ fun ρ => mEs es ds ρ k
  rw [h1]
  obtain ⟨ρ2, h2⟩ := mAV_eq e.2.1 d.2.1 ρ1 fun ρ => mEs es ds ρ k
  rw [h2]
  exact mEs_eq es ds ρ2 k
theorem mB_eq {R : Type} (b d : AB) (ρ : Tr Nat) (k : Tr Nat → R) : ∃ ρ', mB b d ρ k = k ρ' := by
 unfold mB
 split
 ·exact mAVs_eq _ _ _ _
 ·exact mEs_eq _ _ _ _
 ·exact ⟨_, rfl⟩
theorem mLin_eq {R : Type} (c : C) (h : H) : ∀ (l : List (Nat × AB)) (ρ : Tr Nat) (k : Tr Nat → R), ∃ ρ', mLin c h l ρ k = k ρ'
 | [], ρ, k => ⟨ρ, rfl⟩
 | p :: ps, ρ, k => by
  unfold mLin
  split
  ·split
   ·obtain ⟨ρ1, h1⟩ := mB_eq p.2 _ ρ fun ρ => mLin c h ps ρ k
    rw [h1]
    exact mLin_eq c h ps ρ1 k
   ·exact mLin_eq c h ps ρ k
  ·exact mLin_eq c h ps ρ k
end
/-! what can be said without names (nothing is asked of it) -/
mutual
def skV : AV → AV → Bool
 | .int _ a, y => match y with | .int _ b => (match a, b with | .ofNat a, .ofNat b => Nat.beq a b | _, _ => true) | _ => false
 | .sl _ o l _ _, y => match y with | .sl _ o' l' _ _ => Nat.beq o o' && Nat.beq l l' | _ => false
 | .agg vs, y => match y with | .agg us => skVs vs us | _ => false
 | _, _ => true
def skVs : List AV → List AV → Bool
 | [], _ => true
 | v :: vs, us => match us with
  | u :: us => skV v u && skVs vs us
  | [] => true
end
def skB : AB → Option AB → Bool
 | .cells vs, some (.cells us) => skVs vs us
 | _, _ => true
def skH (c : C) (h : H) (args : List AV) : List AV → List (Nat × AB) → Bool
 | .sl i _ _ _ _ :: _, p :: _ => bif Nat.beq p.1 i then (match args with
  | .sl j _ _ _ _ :: _ => skB p.2 (getB c h j)
  | _ => true) else true
 | _, _ => true
def hA {R : Type} : List AV → Nat → (Nat → R) → R
 | [], n, k => forceNat (Nat.mod n 1000) k
 | v :: vs, n, k => match v with
  | .int _ (.ofNat m) => forceNat (Nat.add (Nat.mul n 31) m) fun n => hA vs n k
  | .sl _ _ l _ _ => forceNat (Nat.add (Nat.mul n 31) l) fun n => hA vs n k
  | _ => hA vs n k
def rhit2 (ng : Nat) (ρ : Tr Nat) (m : RMemo) (args : List AV) (c : C) (h : H) : Option (AV × H) :=
 mAVs m.args args ρ fun ρ => mLin c h m.lin ρ fun ρ => rcheck ng m args c h ρ
def rmG (ng : Nat) (ρ : Tr Nat) : List RMemo → Mf
 | [] => noM
 | m :: ms => fun f args c h => bif Nat.beq m.f f && skVs m.args args && skH c h args m.args m.lin then (match rhit2 ng ρ m args c h with
  | some r => some r
  | none => rmG ng ρ ms f args c h) else rmG ng ρ ms f args c h
abbrev RTab := Tr (Tr (List RMemo))
def insT (m : RMemo) (t : RTab) : RTab := bif Nat.blt m.f 1000000 then hA m.args 0 fun i => bif Nat.blt i 1000 then match Tr.get t m.f with
  | none => Tr.setK depth .nil i [m] fun u => Tr.setK depth t m.f u id
  | some u => match Tr.get u i with
   | none => Tr.setK depth u i [m] fun u => Tr.setK depth t m.f u id
   | some l => Tr.setK depth u i (m :: l) fun u => Tr.setK depth t m.f u id
  else t
 else t
def tabOf : List RMemo → RTab
 | [] => .nil
 | m :: ms => insT m (tabOf ms)
def rmT (ng : Nat) (ρ : Tr Nat) (t : RTab) : Mf := fun f args c h => match Tr.get t f with
 | none => none
 | some u => hA args 0 fun i => match Tr.get u i with
  | none => none
  | some l => rmG ng ρ l f args c h
def rbearsAll (ng : Nat) (comp : Code → XC) (tbl : Nat → Option XT) (M : Mf) (n : Nat) : List RMemo → Bool
 | [] => true
 | m :: ms => rwell ng m && rbears m (ev comp tbl M n ⟨m.n0, [(0, big)]⟩ (.call (.fn m.f) m.args) ⟨mkT m.lin, m.n0⟩) && rbearsAll ng comp tbl M n ms
theorem hA_eq {R : Type} : ∀ (vs : List AV) (n : Nat), ∃ i, ∀ k : Nat → R, hA vs n k = k i
 | [], n => ⟨_, fun k => by unfold hA; rw [forceNat_eq]⟩
 | v :: vs, n => by
  unfold hA
  split
  ·rename_i m
   obtain ⟨i, hi⟩ := hA_eq (R := R) vs (Nat.add (Nat.mul n 31) m)
   exact ⟨i, fun k => by rw [forceNat_eq, hi]⟩
  ·rename_i l _ _
   obtain ⟨i, hi⟩ := hA_eq (R := R) vs (Nat.add (Nat.mul n 31) l)
   exact ⟨i, fun k => by rw [forceNat_eq, hi]⟩
  ·exact hA_eq vs n
section
variable {P : Program} {ng : Nat}
def RGood (P : Program) (ng : Nat) (m : RMemo) : Prop := ∀ args c h ρ v h', rcheck ng m args c h ρ = some (v, h') → Ctx c h → WF h → UpDid P ng (.fn m.f) args c h v h'
theorem rgood_of {X : Exts} {M : Mf} {n : Nat} {m : RMemo} (hmx : P.follows .mixedOrders = true) (hO : OpOk P ng) (hng : P.globals.size ≤ ng) (hNG : ∀ (f : Nat) (fn : Func), P.funcs[f]? = some fn → (fn.name == "runtime.NumGoroutine") = false) (hX : ExtOk P X) (hM : MemoOk P ng M)
  (hw0 : rwell ng m = true) (hb : rbears m (ev (cC P) (tblX P X) M n ⟨m.n0, [(0, big)]⟩ (.call (.fn m.f) m.args) ⟨mkT m.lin, m.n0⟩) = true) : RGood P ng m := by
 intro args c h ρ v h' hr hc hw
 cases hx : ev (cC P) (tblX P X) M n ⟨m.n0, [(0, big)]⟩ (.call (.fn m.f) m.args) ⟨mkT m.lin, m.n0⟩ with
 | bad => rw [hx] at hb; cases hb
 | code _ _ _ _ => rw [hx] at hb; cases hb
 | call v1 h1 =>
  rw [hx] at hb
  unfold rbears at hb
  simp only [Bool.and_eq_true] at hb
  obtain ⟨⟨b1, b2⟩, b3⟩ := hb
  have e1 := eqAV_sound _ _ b1
  subst e1
  have b2 := Nat.eq_of_beq_eq_true b2
  have hw1 := hw0
  unfold rwell at hw1
  simp only [Bool.and_eq_true] at hw1
  have g2 := Nat.le_of_ble_eq_true hw1.1.1.2
  have g3 := allLtR_mem hw1.1.2
  have hwf : WF ⟨mkT m.lin, m.n0⟩ := ⟨fun id hid => by
   cases hq : Tr.get (mkT m.lin) id with
   | none => rfl
   | some b =>
    have := g3 _ (mkT_mem (fun p hp => by have := g3 p hp; omega) id b hq)
    have hid' : m.n0 ≤ id := hid
    omega, g2⟩
  have hcx : Ctx ⟨m.n0, [(0, big)]⟩ ⟨mkT m.lin, m.n0⟩ := ⟨Nat.le_refl _, fun id _ hid => by
   simp only [seen]
   have h0 : Nat.ble 0 id = true := by simp
   rw [h0]
   simpa [Nat.blt_eq] using hid⟩
  have hC := (ev_sound hmx hO hng hNG hX hM n).2
  have hup : UpDid P ng (.fn m.f) m.args ⟨m.n0, [(0, big)]⟩ ⟨mkT m.lin, m.n0⟩ m.v h1 := hC (.fn m.f) m.args _ _ m.v h1 hcx hwf (by unfold callOf; rw [hx])
  exact rcheck_ok hw0 hup b2 b3 hr hc hw
theorem rgood_all {X : Exts} {M : Mf} {n : Nat} (hmx : P.follows .mixedOrders = true) (hO : OpOk P ng) (hng : P.globals.size ≤ ng) (hNG : ∀ (f : Nat) (fn : Func), P.funcs[f]? = some fn → (fn.name == "runtime.NumGoroutine") = false) (hX : ExtOk P X) (hM : MemoOk P ng M) :
  ∀ {l : List RMemo}, rbearsAll ng (cC P) (tblX P X) M n l = true → ∀ m ∈ l, RGood P ng m
 | [], _, m, hm => by cases hm
 | m0 :: l, e, m, hm => by
  unfold rbearsAll at e
  rw [Bool.and_eq_true, Bool.and_eq_true] at e
  rcases List.mem_cons.1 hm with rfl | hm
  ·exact rgood_of hmx hO hng hNG hX hM e.1.1 e.1.2
  ·exact rgood_all hmx hO hng hNG hX hM e.2 m hm
theorem rhit2_eq (ng : Nat) (ρ0 : Tr Nat) (m : RMemo) (args : List AV) (c : C) (h : H) : ∃ ρ, rhit2 ng ρ0 m args c h = rcheck ng m args c h ρ := by
 unfold rhit2
 obtain ⟨ρ1, e1⟩ := mAVs_eq m.args args ρ0 (fun ρ => mLin c h m.lin ρ fun ρ => rcheck ng m args c h ρ)
 rw [e1]
 exact mLin_eq c h m.lin ρ1 _
theorem rmG_ok {ρ0 : Tr Nat} : ∀ {l : List RMemo}, (∀ m ∈ l, RGood P ng m) → MemoOk P ng (rmG ng ρ0 l)
 | [], _ => fun f args c h v h' q => by cases q
 | m :: l, hl => by
  intro f args c h v h' q hc hw
  have ih := rmG_ok (ρ0 := ρ0) (l := l) (fun m hm => hl m (List.mem_cons_of_mem _ hm))
  unfold rmG at q
  rw [Bool.cond_eq_ite] at q
  split at q
  ·rename_i hf
   rw [Bool.and_eq_true, Bool.and_eq_true] at hf
   have hf := Nat.eq_of_beq_eq_true hf.1.1
   subst hf
   split at q
   ·rename_i r hr
    cases q
    obtain ⟨ρ, hρ⟩ := rhit2_eq ng ρ0 m args c h
    rw [hρ] at hr
    exact hl m (by simp) args c h ρ v h' hr hc hw
   ·exact ih _ args c h v h' q hc hw
  ·exact ih _ args c h v h' q hc hw
theorem insT_mem {m0 : RMemo} {t : RTab} {L : List RMemo} (ht : ∀ f u i l, Tr.get t f = some u → Tr.get u i = some l → ∀ m ∈ l, m ∈ L) : ∀ f u i l, Tr.get (insT m0 t) f = some u → Tr.get u i = some l → ∀ m ∈ l, m ∈ m0 :: L := by
 intro f u i l e1 e2 m hm
 have old : Tr.get t f = some u → m ∈ m0 :: L := fun e => List.mem_cons_of_mem _ (ht f u i l e e2 m hm)
 unfold insT at e1
 rw [Bool.cond_eq_ite] at e1
 split at e1
 ·rename_i hf
  rw [Nat.blt_eq] at hf
  obtain ⟨j, hj⟩ := hA_eq (R := RTab) m0.args 0
  rw [hj] at e1
  rw [Bool.cond_eq_ite] at e1
  split at e1
  ·rename_i hj2
   rw [Nat.blt_eq] at hj2
   have s2 : ∀ (u0 : Tr (List RMemo)) (l0 : List RMemo), (∀ l i, Tr.get u0 i = some l → ∀ m ∈ l, m ∈ L) → (∀ m ∈ l0, m ∈ m0 :: L) → Tr.setK depth u0 j l0 (fun u => Tr.setK depth t m0.f u id) = Tr.set depth t m0.f (Tr.set depth u0 j l0) → Tr.get (Tr.set depth t m0.f (Tr.set depth u0 j l0)) f = some u → m ∈ m0 :: L := fun u0 l0 hu hl _ e => by
    rw [Tr.get_set _ _ _ _ _ (by omega)] at e
    by_cases q : m0.f = f
    ·rw [if_pos q] at e
     cases e
     rw [Tr.get_set _ _ _ _ _ (by omega)] at e2
     by_cases q2 : j = i
     ·rw [if_pos q2] at e2
      cases e2
      exact hl m hm
     ·rw [if_neg q2] at e2
      exact List.mem_cons_of_mem _ (hu _ _ e2 m hm)
    ·rw [if_neg q] at e
     exact old e
   have s3 : ∀ (u0 : Tr (List RMemo)) (l0 : List RMemo), Tr.setK depth u0 j l0 (fun u => Tr.setK depth t m0.f u id) = Tr.set depth t m0.f (Tr.set depth u0 j l0) := fun u0 l0 => by
    rw [Tr.setK_eq, Tr.setK_eq]; rfl
   split at e1
   ·rename_i hq
    rw [s3] at e1
    exact s2 .nil [m0] (fun l i e => by rw [Tr.get_nil] at e; cases e) (fun m hm => by rw [List.mem_singleton] at hm; simp [hm]) (s3 _ _) e1
   ·rename_i u1 hq
    split at e1
    ·rw [s3] at e1
     exact s2 u1 [m0] (fun l i e => ht _ _ _ _ hq e) (fun m hm => by rw [List.mem_singleton] at hm; simp [hm]) (s3 _ _) e1
    ·rename_i l1 hq1
     rw [s3] at e1
     exact s2 u1 (m0 :: l1) (fun l i e => ht _ _ _ _ hq e) (fun m hm => by
      rcases List.mem_cons.1 hm with rfl | hm
      ·simp
      ·exact List.mem_cons_of_mem _ (ht _ _ _ _ hq hq1 m hm)) (s3 _ _) e1
  ·exact old e1
 ·exact old e1
theorem tabOf_mem : ∀ (L : List RMemo) f u i l, Tr.get (tabOf L) f = some u → Tr.get u i = some l → ∀ m ∈ l, m ∈ L
 | [], f, u, i, l, e1, e2, m, hm => by
  have : Tr.get (Tr.nil : RTab) f = some u := e1
  rw [Tr.get_nil] at this; cases this
 | m0 :: L, f, u, i, l, e1, e2, m, hm => insT_mem (tabOf_mem L) f u i l e1 e2 m hm
theorem rmT_ok {ρ0 : Tr Nat} {L : List RMemo} (hL : ∀ m ∈ L, RGood P ng m) : MemoOk P ng (rmT ng ρ0 (tabOf L)) := by
 intro f args c h v h' q hc hw
 unfold rmT at q
 split at q
 ·cases q
 ·rename_i u hu
  obtain ⟨i, hi⟩ := hA_eq (R := Option (AV × H)) args 0
  rw [hi] at q
  split at q
  ·cases q
  ·rename_i l hl
   exact rmG_ok (fun m hm => hL m (tabOf_mem L f u i l hu hl m hm)) f args c h v h' q hc hw
end
end Go.Proofs.YtmdceifbbmnfgaaGreatDoor.Ev
