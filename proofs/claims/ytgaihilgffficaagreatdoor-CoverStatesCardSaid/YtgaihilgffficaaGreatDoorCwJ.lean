/- CoverStates, part 31 -/
import Derived.Test.YtgaihilgffficaaGreatDoorCwC
set_option linter.all false
set_option maxHeartbeats 4000000
namespace Go.Proofs.YtgaihilgffficaaGreatDoor.Ev
open Go
open Classical
noncomputable def l7 (cl : List aU) (f : dN) (c : List Nat) (s : cz) : Int := if ¬ nJ f c s then 20 else if 256 < f.vars.length ∨ 1024 < f.code.length then 3 else if ¬ bB (kd cl f) f.vars.length = 0 then bB (kd cl f) f.vars.length else if f.code.length = 0 then 1 else 0
theorem uq {cl : List aU} {f : dN} {c : List Nat} {s : cz} {K : PV → Prop} (h6 : s.params.length ≤ 6) (k : K (.int .i64 (l7 cl f c s))) : PF Tryz.prog X0 Mx 48 [.agg (bh cl), .str c, .agg (cL s), .agg (lA f)] K := by
 refine Pf tZ fun hnt => ?_
 repeat' (first | refine pg ?_ | refine aH ?_ | (refine ar ?_ ?_ <;> intro hc <;> try contradiction) | refine af ?_ | (refine ai ?_; intro hl) | (refine aj ?_; intro b) | (refine aQ ?_ ?_ <;> intro hc <;> try first | contradiction | omega) | refine aC ?_ | refine aN ?_ | refine ag ?_ | refine ae ?_ | (refine aq (ao (yA h6 (fun hc => ?_) fun hc => ?_))) | refine pc ?_ | refine pt ?_ | refine pb ?_)
 case refine_1.refine_1 => unfold l7 at k; replace k := Ik k; exact E1 k
 case refine_1.refine_2.refine_1 => unfold l7 at k; replace k := Ik k; exact E1 k
 case refine_2 => unfold l7 at k; replace k := Ik k; exact E1 k
 have hft : nJ f c s := by assumption
 unfold l7 at k
 rw [if_neg (not_not.2 hft), if_neg (by omega)] at k
 refine aJ (fun j : Nat => [(4, .ptr 4 _ 0), (7, .ptr 7 _ 0), (27, pL 2 tI f.vars), (28, .int .i64 (f.vars.length : Nat)), (29, .int .i64 j)]) (fun _ => [(4, some _, .cells (bh cl)), (7, some _, .cells (lA f))]) (fun j => j ≤ f.vars.length ∧ ∀ i, i < j → kd cl f i = 0) (fun j => f.vars.length - j) 0 ⟨Nat.zero_le _, fh⟩ .su .su ?_
 rintro j ⟨hj, hb⟩
 by_cases hlt : j < f.vars.length
 ·repeat' (first | refine pg ?_ | refine aH ?_ | (refine ar ?_ ?_ <;> intro hc <;> try contradiction) | refine af ?_ | (refine ai ?_; intro hl) | (refine aj ?_; intro b) | (refine aQ ?_ ?_ <;> intro hc <;> try first | contradiction | omega) | refine aC ?_ | refine aN ?_ | refine ag ?_ | refine ae ?_ | refine ay ?_ | refine pc ?_ | refine pt ?_ | refine pb ?_)
  refine cA 14 50 (¬ pf f j ∧ ¬ kK (el f.vars j).name) (fun b hnm => ?_) (fun J => ?_)
  rotate_left
  ·repeat' (first | (refine J _ _ .su rfl ?_) | refine pg ?_ | refine aH ?_ | (refine ar ?_ ?_ <;> intro hc <;> try contradiction) | refine af ?_ | (refine ai ?_; intro hl) | (refine aj ?_; intro b) | (refine aQ ?_ ?_ <;> intro hc <;> try first | contradiction | omega) | refine aC ?_ | refine aN ?_ | refine ag ?_ | refine ae ?_ | (refine aq (ao (o8 (fun hc => ?_) fun hc => ?_))) | refine pc ?_ | refine pt ?_ | refine pb ?_)
   all_goals (clear J; unfold pf DV; first | (simp [*]; done) | (simp [*]; omega) | (simp_all; done) | (simp_all; intro h; omega) | (simp [*]; intro h; omega))
  cases b
  rotate_left
  ·repeat' (first | refine pg ?_ | refine aH ?_ | (refine ar ?_ ?_ <;> intro hc <;> try contradiction) | refine af ?_ | (refine ai ?_; intro hl) | (refine aj ?_; intro b) | (refine aQ ?_ ?_ <;> intro hc <;> try first | contradiction | omega) | refine aC ?_ | refine aN ?_ | refine ag ?_ | refine ae ?_ | refine pc ?_ | refine pt ?_ | refine pb ?_)
   have e : kd cl f j = 5 := by unfold kd; rw [if_pos (hnm.1 rfl)]
   have e2 := bc hlt hb e dc
   rw [e2] at k; replace k := Ik k; exact E1 k
  have hnn : ¬ (¬ pf f j ∧ ¬ kK (el f.vars j).name) := fun q => by cases hnm.2 q
  repeat' (first | refine pg ?_ | refine aH ?_ | (refine ar ?_ ?_ <;> intro hc <;> try contradiction) | refine af ?_ | (refine ai ?_; intro hl) | (refine aj ?_; intro b) | (refine aQ ?_ ?_ <;> intro hc <;> try first | contradiction | omega) | refine aC ?_ | refine aN ?_ | refine ag ?_ | refine ae ?_ | refine aq (ao (ic ?_)) | refine pc ?_ | refine pt ?_ | refine pb ?_)
  all_goals first
   | (refine ⟨j + 1, by dsimp only; omega, ⟨om, fun i hi => ?_⟩, .su, .su⟩; by_cases q : i = j; (subst q; unfold kd; rw [if_neg hnn, if_neg]; first | exact fun q => q.2 (Or.inl am) | exact fun q => q.1 am | exact fun q => q.2 (Or.inr (aW.1 om))); (exact hb i om))
   | (have e : kd cl f j = 8 := by unfold kd; rw [if_neg hnn, if_pos ⟨by assumption, fun q => q.elim (by assumption) fun q => by have := aW.2 q; omega⟩]
      have e2 := bc hlt hb e dc
      rw [e2] at k; replace k := Ik k; exact E1 k)
 ·repeat' (first | refine pg ?_ | refine aH ?_ | (refine ar ?_ ?_ <;> intro hc <;> try contradiction) | refine af ?_ | (refine ai ?_; intro hl) | (refine aj ?_; intro b) | (refine aQ ?_ ?_ <;> intro hc <;> try first | contradiction | omega) | refine aC ?_ | refine aN ?_ | refine ag ?_ | refine ae ?_ | refine pc ?_ | refine pt ?_ | refine pb ?_)
  all_goals rw [bY fun x (hx : x < f.vars.length) => hb x (by omega)] at k
  all_goals replace k := Ik k
  all_goals exact E1 k
theorem pE {cl : List aU} : ∀ (n : Nat) (out : List (List Nat)) (s : List Nat), out.Nodup → (bA cl n out s).1.Nodup
 | 0, out, s, h => h
 | n + 1, out, s, h => by
  rw [bA]
  by_cases h1 : bl (bK cl) s < 0
  ·rw [if_pos h1]; exact h
  rw [if_neg h1]
  by_cases h2 : s ∈ out
  ·rw [if_pos h2]; exact h
  rw [if_neg h2]
  have h' : (out ++ [s]).Nodup := by
   rw [List.nodup_append]
   refine ⟨h, by simp, fun a ha b hb => ?_⟩
   rw [List.mem_singleton] at hb
   subst hb
   exact fun q => h2 (q ▸ ha)
  by_cases h3 : dm cl s = []
  ·rw [if_pos h3]; exact h'
  ·rw [if_neg h3]; exact pE n _ _ h'
theorem Aw {cl : List aU} {c : List Nat} (hc : c ∈ bK cl) : ∃ l, aA cl c = c :: l ∧ ¬ c ∈ l := by
 have h0 := aW.2 hc
 have hn := pE (cl := cl) (cl.length + 1) [] c (by simp)
 have hp : ∀ (n : Nat) (out : List (List Nat)) (s : List Nat), ∃ l, (bA cl n out s).1 = out ++ l := by
  intro n
  induction n with
  | zero => exact fun out s => ⟨[], by simp [bA]⟩
  | succ n ih =>
   intro out s
   rw [bA]
   by_cases h1 : bl (bK cl) s < 0
   ·rw [if_pos h1]; exact ⟨[], by simp⟩
   rw [if_neg h1]
   by_cases h2 : s ∈ out
   ·rw [if_pos h2]; exact ⟨[], by simp⟩
   rw [if_neg h2]
   by_cases h3 : dm cl s = []
   ·rw [if_pos h3]; exact ⟨[s], rfl⟩
   ·rw [if_neg h3]
    obtain ⟨l, e⟩ := ih (out ++ [s]) (dm cl s)
    exact ⟨s :: l, by rw [e]; simp⟩
 have e : ∃ l, aA cl c = c :: l := by
  unfold aA b7
  rw [bA, if_neg (by omega), if_neg (by simp)]
  by_cases h3 : dm cl c = []
  ·rw [if_pos h3]; exact ⟨[], rfl⟩
  ·rw [if_neg h3]
   obtain ⟨l, e⟩ := hp cl.length ([] ++ [c]) (dm cl c)
   exact ⟨l, by rw [e]; rfl⟩
 obtain ⟨l, e⟩ := e
 refine ⟨l, e, ?_⟩
 have hn' : (aA cl c).Nodup := hn
 rw [e] at hn'
 exact (List.nodup_cons.1 hn').1
theorem mK {cl : List aU} {c m : List Nat} {s : cz} : pe cl c m s ↔ c ∈ bK cl ∧ gB (aY cl c) m = some s ∧ s.static = true := by
 unfold pe
 constructor
 ·rintro ⟨h, hs⟩
  have hc : c ∈ bK cl := by
   obtain ⟨d, hd, e⟩ := List.exists_of_findSome?_eq_some h
   cases hq : gB (aY cl d) m with
   | none => rw [hq] at e; cases e
   | some z => rw [hq] at e; cases e; exact cq hd
  refine ⟨hc, ?_, hs⟩
  obtain ⟨l, e, hn⟩ := Aw hc
  unfold cb at h
  rw [e, List.findSome?_cons] at h
  cases hq : gB (aY cl c) m with
  | some z => rw [hq] at h; cases h; rfl
  | none =>
   rw [hq] at h
   obtain ⟨d, hd, e2⟩ := List.exists_of_findSome?_eq_some h
   cases hw : gB (aY cl d) m with
   | none => rw [hw] at e2; cases e2
   | some z => rw [hw] at e2; cases e2; exact absurd hd hn
 ·rintro ⟨hc, h, hs⟩
  obtain ⟨l, e, _⟩ := Aw hc
  refine ⟨?_, hs⟩
  unfold cb
  rw [e, List.findSome?_cons, h]; rfl
theorem nz {s : cz} {x : bJ} {K : PV → Prop} (kt : s.name = x.name → K (.bool true)) (kf : ¬ s.name = x.name → K (.bool false)) : PF Tryz.prog X0 Mx 215 [.agg (cL s), .fp (fw x) 0] K := by
 refine Pf nr fun hnt => ?_
 repeat' (first | refine Qa ?_ | (refine Ba ?_ ?_ <;> try exact Za) | intro hc)
 ·exact E1 (kt hc)
 ·exact E1 (kf hc)
theorem lq {l : List cz} {x : bJ} {K : PV → Prop} (k : K (.int .i64 (db (fun s : cz => s.name = x.name) l))) : PF Tryz.prog X0 Mx 214 [pL 4 cL l, .fn 215 [.fp (fw x) 0]] K := by
 refine Pf ll fun hnt => ?_
 repeat' (first | refine Qa ?_ | (refine Ba ?_ ?_ <;> try exact Za) | intro hc)
 refine aJ (fun j : Nat => [(0, pL 4 cL l), (1, .fn 215 [.fp (fw x) 0]), (7, .int .i64 (l.length : Nat)), (8, .int .i64 j)]) (fun _ => []) (fun j => j ≤ l.length ∧ ∀ i, i < j → ¬ (el l i).name = x.name) (fun j => l.length - j) 0 ⟨Nat.zero_le _, fh⟩ .su (.nil) ?_
 rintro j ⟨hj, hb⟩
 repeat' (first | refine Qa ?_ | (refine Ba ?_ ?_ <;> try exact Za) | (refine aq (ao (nz (fun hc => ?_) fun hc => ?_))) | intro hc)
 ·rw [fK (p := (fun s : cz => s.name = x.name)) (j := j) (by omega) hc hb] at k
  exact E1 k
 ·refine ⟨j + 1, by dsimp only; omega, ⟨om, fun i hi => ?_⟩, .su, (.nil)⟩
  by_cases q : i = j
  ·subst q; assumption
  ·exact hb i om
 ·rw [fL (p := (fun s : cz => s.name = x.name)) fun i hi => hb i (by omega)] at k
  exact E1 k
theorem pF {cl : List aU} {f : dN} {x : bJ} {K : PV → Prop} (kt : ∀ s, pe cl x.cls x.name s → K (.bO [.agg (cL s), .bool true])) (kf : ∀ s, (¬ ∃ s, pe cl x.cls x.name s) → K (.bO [.agg (cL s), .bool false])) : PF Tryz.prog X0 Mx 170 [.agg (kN cl f), .agg (fw x)] K := by
 refine Pf pj fun hnt => ?_
 have hfl := ee (l := bK cl) (s := x.cls)
 rw [bL] at hfl
 rcases ed (fun s : cz => s.name = x.name) (aY cl x.cls).methods with ⟨e1, q1⟩ | ⟨q, e1, q2, q3, q4⟩
 all_goals rw [show aY cl x.cls = el cl (bl (bK cl) x.cls).toNat from rfl] at *
 all_goals have hno : bl (bK cl) x.cls < 0 → ¬ ∃ s, pe cl x.cls x.name s := fun w ⟨s, h⟩ => by have := aW.2 (mK.1 h).1; omega
 ·have hn2 : ¬ ∃ s, pe cl x.cls x.name s := fun ⟨s, h⟩ => by
    have h2 := (mK.1 h).2.1
    rw [show gB (aY cl x.cls) x.name = none from iB fun i hi => if_neg (q1 i hi)] at h2
    cases h2
  repeat' (first | refine Qc ?_ | (refine Ba ?_ ?_ <;> try exact Za) | refine af ?_ | refine aa ?_ | refine aj ?_ | refine ae ?_ | refine ay ?_ | refine bG (us := bh cl) ?_ rfl rfl ⟨by show 1 ≤ 8; decide, rfl⟩ | refine aq (ao (ic ?_)) | (refine gS (lq ⟨rfl, ?_⟩) rfl rfl rfl (.cons _ _ _ _ (.refl _) (.cons _ _ _ _ (.fn _ _ _ (.cons _ _ _ _ (.ptr _ _ _ _ _ rfl (.refl _)) .nil)) .nil))) | intro hc)
  all_goals have k2 := kf default hn2
  all_goals exact ⟨Or.inr rfl, ⟨rfl, ⟨trivial, trivial⟩⟩, _, _, rfl, .bO _ _ (.cons _ _ _ _ (.agg _ _ (.cons _ _ _ _ (.refl _) (.cons _ _ _ _ (.refl _) (.cons _ _ _ _ (.aO _ _) (.cons _ _ _ _ (.refl _) .nil))))) (.cons _ _ _ _ (.refl _) .nil)), k2⟩
 ·have hsg : gB (aY cl x.cls) x.name = some (el (el cl (bl (bK cl) x.cls).toNat).methods q) := gY q2 (if_pos q3) fun i hi => if_neg (q4 i hi)
  repeat' (first | refine Qc ?_ | (refine Ba ?_ ?_ <;> try exact Za) | refine af ?_ | refine aa ?_ | refine aj ?_ | refine ae ?_ | refine ay ?_ | refine bG (us := bh cl) ?_ rfl rfl ⟨by show 1 ≤ 8; decide, rfl⟩ | refine aq (ao (ic ?_)) | (refine gS (lq ⟨rfl, ?_⟩) rfl rfl rfl (.cons _ _ _ _ (.refl _) (.cons _ _ _ _ (.fn _ _ _ (.cons _ _ _ _ (.ptr _ _ _ _ _ rfl (.refl _)) .nil)) .nil))) | intro hc)
  ·have k2 := kf default (hno am)
   exact ⟨Or.inr rfl, ⟨rfl, ⟨trivial, trivial⟩⟩, _, _, rfl, .bO _ _ (.cons _ _ _ _ (.agg _ _ (.cons _ _ _ _ (.refl _) (.cons _ _ _ _ (.refl _) (.cons _ _ _ _ (.aO _ _) (.cons _ _ _ _ (.refl _) .nil))))) (.cons _ _ _ _ (.refl _) .nil)), k2⟩
  ·rw [e1] at hc ⊢
   have k2 := kt _ (mK.2 ⟨aW.1 om, hsg, hc⟩)
   exact ⟨Or.inr rfl, ⟨rfl, ⟨trivial, trivial⟩⟩, _, _, rfl, (.refl _), k2⟩
  ·rw [e1] at hc
   have k2 := kf default (fun ⟨s, h⟩ => by
    obtain ⟨_, h2, h3⟩ := mK.1 h
    rw [hsg] at h2; cases h2
    exact absurd h3 (ff hc))
   exact ⟨Or.inr rfl, ⟨rfl, ⟨trivial, trivial⟩⟩, _, _, rfl, .bO _ _ (.cons _ _ _ _ (.agg _ _ (.cons _ _ _ _ (.refl _) (.cons _ _ _ _ (.refl _) (.cons _ _ _ _ (.aO _ _) (.cons _ _ _ _ (.refl _) .nil))))) (.cons _ _ _ _ (.refl _) .nil)), k2⟩
theorem lK {l : List (List Nat)} {K : PV → Prop} (hl : l.length * 16 ≤ 140737488355328) (k : K (pL 1 pS l)) : PF Tryz.prog X0 Mx 213 [pL 1 pS l] K := by
 refine Pf lG fun hnt => ?_
 repeat' (first | refine Qa ?_ | (refine J4 (fun hc => ?_) ?_) | (refine bw ?_; intro b) | (refine J5 (f := pS) ?_; intro od1 hod) | intro hc)
 ·obtain rfl : l = [] := List.length_eq_zero_iff.1 hc
  exact ⟨Or.inr rfl, ⟨trivial, trivial⟩, _, _, rfl, .aO 1 _, k⟩
 ·exact ⟨Or.inr rfl, ⟨trivial, trivial⟩, _, _, rfl, fx, k⟩
theorem wk {cl : List aU} {s nm : List Nat} {K : PV → Prop} (ct : cl.length ≤ 64) (hs : ∀ c t, cb cl s nm = some (c, t) → t.params.length * 16 ≤ 140737488355328) (k1 : ∀ c t, cb cl s nm = some (c, t) → K (.bO [.str c, .agg (cL t), .bool true])) (k0 : cb cl s nm = none → K (.bO [.str [], .agg (cL default), .bool false])) : PF Tryz.prog X0 Mx 168 [.agg (bh cl), .str s, .str nm] K := by
 refine Pf wh fun hnt => ?_
 repeat' (first | refine Qb ?_ | (refine aj ?_; intro b) | (refine Ba ?_ ?_ <;> intro hc <;> try exact Zb) | refine aq (ao (ga ?_)))
 repeat' (first | refine Qb ?_ | (refine aj ?_; intro b) | (refine Ba ?_ ?_ <;> intro hc <;> try exact Zb) | refine aG ?_ | refine pd ?_ | refine dW (aM (cJ ?_)) | (refine dW (aM (ny ct rfl (fun a b hL => ?_) fun hL => ?_))) | refine cH ?_)
 ·obtain ⟨ha, hb2, hF⟩ := hL
  repeat' (first | refine Qb ?_ | (refine aj ?_; intro b) | (refine Ba ?_ ?_ <;> intro hc <;> try exact Zb) | refine aG ?_ | refine pd ?_ | (refine aq (ao (lK (hs _ _ hF) ?_))) | refine cH ?_)
  have k2 := k1 _ _ hF
  exact ⟨Or.inr rfl, ⟨trivial, ⟨rfl, ⟨trivial, trivial⟩⟩⟩, _, _, rfl, (.refl _), k2⟩
 ·have k2 := k0 hL
  exact ⟨Or.inr rfl, ⟨trivial, ⟨rfl, ⟨trivial, trivial⟩⟩⟩, _, _, rfl, .bO _ _ (.cons _ _ _ _ (.refl _) (.cons _ _ _ _ (.agg _ _ (.cons _ _ _ _ (.refl _) (.cons _ _ _ _ (.refl _) (.cons _ _ _ _ (.aO _ _) (.cons _ _ _ _ (.refl _) .nil))))) (.cons _ _ _ _ (.refl _) .nil))), k2⟩
theorem CK {cl : List aU} {f : dN} {x : bJ} (h : x.op = 6 ∨ x.op = 15) : iQ cl f x = if ¬ x.cls ∈ bK cl then 6 else if ¬ iD cl x.cls (vt f x.dst) then 8 else 0 := by unfold iQ; rw [if_pos h]
theorem M6 {cl : List aU} {f : dN} {x : bJ} (h : x.op = 7 ∨ x.op = 8) : iQ cl f x = xO cl f x := by unfold iQ; rw [if_neg (by omega), if_pos h]
theorem CM {cl : List aU} {f : dN} {x : bJ} (h : x.op = 9 ∨ x.op = 10) : iQ cl f x = na cl f x := by unfold iQ; rw [if_neg (by omega), if_neg (by omega), if_pos h]
theorem CN {cl : List aU} {f : dN} {x : bJ} (h : x.op = 13) : iQ cl f x = if ¬ (x.a = -1 ↔ f.result = []) then 9 else if lX cl f x then 0 else 8 := by
 unfold iQ; rw [if_neg (by omega), if_neg (by omega), if_neg (by omega)]
 by_cases q : x.a = -1 ↔ f.result = []
 ·rw [if_neg (fun w => w.2 q), if_neg (not_not.2 q)]
 ·rw [if_pos ⟨h, q⟩, if_pos q]
theorem Hp {cl : List aU} {f : dN} {x : bJ} (h : ¬ (x.op = 6 ∨ x.op = 15) ∧ ¬ (x.op = 7 ∨ x.op = 8) ∧ ¬ (x.op = 9 ∨ x.op = 10) ∧ ¬ x.op = 13) : iQ cl f x = if lX cl f x then 0 else 8 := by
 unfold iQ; rw [if_neg h.1, if_neg h.2.1, if_neg h.2.2.1, if_neg (fun w => h.2.2.2 w.1)]
theorem qV {cl : List aU} {f : dN} {x : bJ} {K : PV → Prop} (ct : cl.length ≤ 64) (hi : ¬ gZ ∈ bK cl) (hn : ¬ pa ∈ bK cl) (h6 : ∀ c t, cb cl x.cls x.name = some (c, t) → t.params.length ≤ 6) (hr : jv f x) (hop : 0 ≤ x.op ∧ x.op < 17) (k : K (.int .i64 (iQ cl f x))) : PF Tryz.prog X0 Mx 105 [.agg (kN cl f), .agg (fw x)] K := by
 refine Pf qN fun hnt => ?_
 have hA : ∀ o : Int, x.op = o → hasB o 97 = true → x.op ≠ 13 ∨ x.a ≠ -1 → 0 ≤ x.a ∧ x.a < f.vars.length := fun o e h h2 => nc hr (by rw [e]; exact h) h2
 have hW : ∀ o : Int, x.op = o → hasB o 100 = true → x.op ≠ 9 → x.op ≠ 10 → 0 ≤ x.dst ∧ x.dst < f.vars.length := fun o e h => xP hr (by rw [e]; exact h)
 have hB : ∀ o : Int, x.op = o → hasB o 98 = true → 0 ≤ x.b ∧ x.b < f.vars.length := fun o e h => B4 hr (by rw [e]; exact h)
 repeat' (first | refine Qc ?_ | (refine Ba ?_ ?_ <;> try exact Za) | refine af ?_ | refine aj ?_ | refine ag ?_ | refine aG ?_ | refine pd ?_ | refine ay ?_ | (refine aq (ao (km ?_ (fun hc => ?_) fun hc => ?_))) | (refine dW (aM (km ?_ (fun hc => ?_) fun hc => ?_))) | refine aq (ao (kM ?_)) | refine dW (aM (kM ?_)) | (refine dW (aM (gU ?_ ?_))) | (refine dW (aM (iy ct hi hn (fun hc => ?_) fun hc => ?_))) | (refine dW (aM (fA hi (fun hc => ?_) fun hc => ?_))) | refine bG (us := bh cl) ?_ rfl rfl ⟨by show 1 ≤ 8; decide, rfl⟩ | (refine aq (ao (wk ct (fun c t hL => by have := h6 c t hL; omega) (fun c t hL => ?_) fun hL => ?_))) | (refine aq (ao (pF (fun t hD => ?_) fun t hD => ?_))) | (refine aq (ao (qU ct hi hn hr om ?_))) | (refine aq (ao (sS ct hi hn hr om ?_))) | exact hA _ am dc om | exact hW _ am dc om om | exact hB _ am dc | refine aq (ao (ic ?_)) | refine pb ?_ | intro hc)
 all_goals first
  | (rw [Hp (by omega), if_pos (by unfold lX; refine ⟨fun q => ?_, fun q => ?_, fun q => ?_, fun q => ?_, fun q => ?_, fun q => ?_, fun q => ?_, fun q => ?_⟩ <;> first | (exfalso; omega) | assumption | exact ⟨by assumption, by assumption⟩ | exact ⟨by assumption, Or.inl ⟨by assumption, by assumption⟩⟩ | exact ⟨by assumption, Or.inr ⟨by assumption, by assumption, by assumption⟩⟩ | exact Or.inl (by assumption) | exact Or.inr (by assumption))] at k; exact E1 k)
  | (rw [Hp (by omega), if_neg (fun q => by unfold lX at q; obtain ⟨q1, q2, q3, q4, q5, q6, q7, q8⟩ := q; first | exact absurd (q1 (by omega)) (by assumption) | exact q2 (by omega) (by assumption)| exact absurd (q3 (by omega)) (by assumption) | exact absurd (q4 (by omega)).1 (by assumption) | exact absurd (q4 (by omega)).2 (by assumption) | exact absurd (q5 (by omega)) (by assumption) | exact q6 (by omega) (by assumption) | exact absurd (q7 (by omega)).1 (by assumption) | exact (q7 (by omega)).2.elim (fun w => by first | exact absurd w.1 (by assumption) | exact absurd w.2 (by assumption)) (fun w => by first | exact absurd w.1 (by assumption) | exact w.2.1 (by assumption) | exact w.2.2 (by assumption)) | exact (q8 (by omega)).elim (by assumption) (by assumption))] at k; exact E1 k)
  | (rw [M6 (by omega)] at k; exact E1 k)
  | (rw [CK (by omega), if_pos (fun q => by have := aW.2 q; omega)] at k; exact E1 k)
  | (rw [CK (by omega), if_neg (not_not.2 (aW.1 (by omega))), if_pos (by assumption)] at k; exact E1 k)
  | (rw [CK (by omega), if_neg (not_not.2 (aW.1 (by omega))), if_neg (not_not.2 (by assumption))] at k; exact E1 k)
  | (rw [CN (by omega), if_pos (by simp_all)] at k; exact E1 k)
  | (rw [CN (by omega), if_neg (not_not.2 (by simp_all)), if_pos (by unfold lX; refine ⟨fun q => ?_, fun q => ?_, fun q => ?_, fun q => ?_, fun q => ?_, fun q => ?_, fun q => ?_, fun q => ?_⟩ <;> first | (exfalso; omega) | assumption | exact ⟨by assumption, by assumption⟩ | exact ⟨by assumption, Or.inl ⟨by assumption, by assumption⟩⟩ | exact ⟨by assumption, Or.inr ⟨by assumption, by assumption, by assumption⟩⟩ | exact Or.inl (by assumption) | exact Or.inr (by assumption))] at k; exact E1 k)
  | (rw [CN (by omega), if_neg (not_not.2 (by simp_all)), if_neg (fun q => by unfold lX at q; obtain ⟨q1, q2, q3, q4, q5, q6, q7, q8⟩ := q; first | exact absurd (q1 (by omega)) (by assumption) | exact q2 (by omega) (by assumption)| exact absurd (q3 (by omega)) (by assumption) | exact absurd (q4 (by omega)).1 (by assumption) | exact absurd (q4 (by omega)).2 (by assumption) | exact absurd (q5 (by omega)) (by assumption) | exact q6 (by omega) (by assumption) | exact absurd (q7 (by omega)).1 (by assumption) | exact (q7 (by omega)).2.elim (fun w => by first | exact absurd w.1 (by assumption) | exact absurd w.2 (by assumption)) (fun w => by first | exact absurd w.1 (by assumption) | exact w.2.1 (by assumption) | exact w.2.2 (by assumption)) | exact (q8 (by omega)).elim (by assumption) (by assumption))] at k; exact E1 k)
  | (rw [CM (by omega), show na cl f x = 8 by unfold na; rw [if_pos ⟨by omega, fun q => by first | exact absurd q.1 (by assumption) | exact absurd q.2 (by assumption)⟩]] at k; exact E1 k)
  | (rw [CM (by omega), tS (fun q => by first | omega | exact q.2 ⟨by assumption, by assumption⟩) (by first | exact Or.inl ⟨by omega, _, hL, by assumption⟩ | exact Or.inr ⟨by omega, hD⟩)] at k; exact E1 k)
  | (rw [CM (by omega), tj (fun q => by first | omega | exact q.2 ⟨by assumption, by assumption⟩) (fun ⟨s, q⟩ => by rcases q with ⟨w, c', q, q2⟩ | ⟨w, q⟩ <;> first | omega | exact hD ⟨_, q⟩ | (rw [hL] at q; cases q <;> simp_all))] at k; exact E1 k)
structure Rd (cl : List aU) : Prop where
 ct : cl.length ≤ 64
 hi : ¬ gZ ∈ bK cl
 hn : ¬ pa ∈ bK cl
 h6 : ∀ s nm c t, cb cl s nm = some (c, t) → t.params.length ≤ 6
theorem wP {cl : List aU} (h : fV cl = 0) {s : List Nat} (hs : s ∈ bK cl) : fy s := by
 obtain ⟨i, hi, rfl⟩ := dn hs
 rw [bL] at hi
 rw [qE hi]
 exact (iu ((fW h).2 i hi)).1
theorem DQ {cl : List aU} {s nm c : List Nat} {t : cz} (h : cb cl s nm = some (c, t)) : c ∈ aA cl s ∧ ∃ j, j < (aY cl c).methods.length ∧ el (aY cl c).methods j = t ∧ t.name = nm := by
 obtain ⟨d, hd, e⟩ := List.exists_of_findSome?_eq_some h
 cases hq : gB (aY cl d) nm with
 | none => rw [hq] at e; cases e
 | some z =>
  rw [hq] at e; cases e
  obtain ⟨y, hy, e⟩ := List.exists_of_findSome?_eq_some hq
  by_cases q : y.name = nm
  ·rw [if_pos q] at e; cases e
   obtain ⟨j, hj, e2⟩ := dn hy
   exact ⟨hd, j, hj, e2, q⟩
  ·rw [if_neg q] at e; cases e
theorem jt {cl : List aU} (h : fV cl = 0) : Rd cl := by
 refine ⟨(fW h).1, fun q => (wP h q).2.2.2.1 dc, fun q => (wP h q).2.2.2.1 dc, fun s nm c t hl => ?_⟩
 obtain ⟨hc, j, hj, rfl, _⟩ := DQ hl
 have h1 := j7 (aW.2 (cq hc))
 rw [bL] at h1
 exact Cq ((iu ((fW h).2 _ h1.1)).2.2.2.2 j hj)
theorem M7 {cl : List aU} {f : dN} {c : List Nat} {s : cz} : vY cl f c s = if ¬ l7 cl f c s = 0 then l7 cl f c s else bB (o0 cl f) f.code.length := by
 unfold vY l7
 by_cases h1 : nJ f c s
 ·rw [if_neg (not_not.2 h1), if_neg (not_not.2 h1)]
  by_cases h2 : 256 < f.vars.length ∨ 1024 < f.code.length
  ·rw [if_pos h2, if_pos h2]; rfl
  ·rw [if_neg h2, if_neg h2]
   by_cases h3 : bB (kd cl f) f.vars.length = 0
   ·rw [if_neg (not_not.2 h3), if_neg (not_not.2 h3)]
    by_cases h4 : f.code.length = 0
    ·rw [if_pos h4, if_pos h4]; rfl
    ·rw [if_neg h4, if_neg h4]; rfl
   ·rw [if_pos h3, if_pos h3, if_pos h3]
 ·rw [if_pos h1, if_pos h1]; rfl
theorem J6 {cl : List aU} {f : dN} {c : List Nat} {s : cz} (h : l7 cl f c s = 0) : f.vars.length ≤ 256 ∧ f.code.length ≤ 1024 := by
 unfold l7 at h
 obtain ⟨h1, h⟩ := bF dc h
 obtain ⟨h2, h⟩ := bF dc h
 omega
theorem sT {cl : List aU} {f : dN} {i : Nat} {K : PV → Prop} (hk : Rd cl) (hn : f.code.length ≤ 9223372036854775807) (hi : i < f.code.length) (k : K (.int .i64 (o0 cl f i))) : PF Tryz.prog X0 Mx 49 [.agg (bh cl), .agg (lA f), .int .i64 (i : Nat)] K := by
 refine Pf sG fun hnt => ?_
 unfold o0 at k
 repeat' (first | refine Qa ?_ | (refine Ba ?_ ?_ <;> try exact Za) | (refine aq (ao (tO (fun hc => ?_) fun hc => ?_))) | (refine aq (ao (sQ (fun hc => ?_) fun hc => ?_))) | (refine aq (ao (yz am (fun hc => ?_) fun hc => ?_))) | (refine aq (ao (sR hn hi (by assumption : jv f (el f.code i)).2.2.1 (fun hc => ?_) fun hc => ?_))) | (refine aq (ao (qV hk.ct hk.hi hk.hn (fun c t => hk.h6 _ _ c t) am am ?_))) | intro hc)
 all_goals first
  | (rw [if_pos (by first | exact Or.inl (by assumption) | exact Or.inr ⟨by assumption, by omega⟩)] at k; exact E1 k)
  | rw [if_neg (by rintro (q | ⟨q, q2⟩) <;> first | exact q (by assumption) | exact absurd q (by assumption) | omega)] at k
 all_goals first
  | (rw [if_pos (by assumption)] at k; exact E1 k)
  | rw [if_neg (not_not.2 (by assumption))] at k
 all_goals first
  | (rw [if_pos (by assumption)] at k; exact E1 k)
  | rw [if_neg (not_not.2 (by assumption))] at k
 all_goals first
  | (rw [if_pos (by assumption)] at k; exact E1 k)
  | (rw [if_neg (by assumption)] at k; exact E1 k)
theorem CO {u : aK} {K : PV → Prop} (k : ∀ a b, K (.bO [.int .i64 a, .int .i64 b, .int .i64 (xM u)])) : PF Tryz.prog X0 Mx 14 [.agg (bQ u)] K := by
 refine Pf Cu fun hnt => ?_
 repeat' (first | refine Qa ?_ | (refine Ba ?_ ?_ <;> try exact Za) | refine aq (ao (um ?_)) | intro hc)
 rotate_left
 ·specialize k (-1) (-1); unfold xM at k; replace k := Ik k; exact E1 k
 have hw := tE (by assumption : jC u = 0)
 have hk := jt hw.1
 have hm16 := fun i hi => (iu ((fW hw.1).2 i hi)).2.2.2.1
 have hal := tl hm16
 have qW := hw.2.1
 have hmf := hw.2.2.1
 refine aJ (fun j : Nat => [(1, .ptr 1 _ 0), (6, .int .i64 ((allM (u.cl.take j)).length : Nat)), (7, .int .i64 (bH (u.fns.take (allM (u.cl.take j)).length) : Nat)), (23, pL 4 ia u.cl), (24, .int .i64 (u.cl.length : Nat)), (25, .int .i64 j)]) (fun _ => [(1, some _, .cells (bQ u))]) (fun j => j ≤ u.cl.length ∧ (∀ i, i < (allM (u.cl.take j)).length → fE u i = 0) ∧ bH (u.fns.take (allM (u.cl.take j)).length) ≤ 1024 * (allM (u.cl.take j)).length) (fun j => u.cl.length - j) 0 ⟨Nat.zero_le _, fun i hi => absurd hi (by simp [allM]), by simp [allM, bH]⟩ .su .su ?_
 rintro j ⟨hj, hb, hsn⟩
 by_cases hlt : j < u.cl.length
 rotate_left
 ·repeat' (first | refine Qa ?_ | (refine Ba ?_ ?_ <;> try exact Za) | intro hc)
  all_goals
   have hjl : j = u.cl.length := by omega
   have hnl : (allM (u.cl.take j)).length = u.fns.length := by rw [hjl, List.take_length]; exact hmf
   rw [hnl] at hb
   have hs0 : bH (u.fns.take (allM (u.cl.take j)).length) = bH u.fns := by rw [hnl, List.take_length]
   have hb0 : bB (fE u) u.fns.length = 0 := bY hb
  ·specialize k (-1) (-1); unfold xM at k; replace k := Ik k; exact E1 k
  ·specialize k 0 0; unfold xM at k; replace k := Ik k; exact E1 k
 have hac := kg hlt
 have hle : (allM (u.cl.take (j + 1))).length ≤ (allM u.cl).length := by
  have e := tT (u.cl.take (j + 1)) (u.cl.drop (j + 1))
  rw [List.take_append_drop] at e
  rw [e, List.length_append]; omega
 repeat' (first | refine Qa ?_ | (refine Ba ?_ ?_ <;> try exact Za) | intro hc)
 generalize hn0 : (allM (u.cl.take j)).length = n0 at *
 refine aJ (fun t : Nat => [(1, .ptr 1 _ 0), (6, .int .i64 ((n0 + t : Nat) : Int)), (7, .int .i64 (bH (u.fns.take (n0 + t)) : Nat)), (9, .ptr 9 _ 0), (23, pL 4 ia u.cl), (24, .int .i64 (u.cl.length : Nat)), (25, .int .i64 j), (30, pL 4 cL (el u.cl j).methods), (31, .int .i64 ((el u.cl j).methods.length : Nat)), (32, .int .i64 t)]) (fun _ => [(1, some _, .cells (bQ u)), (9, some _, .cells (ia (el u.cl j)))]) (fun t => t ≤ (el u.cl j).methods.length ∧ (∀ i, i < n0 + t → fE u i = 0) ∧ bH (u.fns.take (n0 + t)) ≤ 1024 * (n0 + t)) (fun t => (el u.cl j).methods.length - t) 0 ⟨Nat.zero_le _, hb, hsn⟩ .su .su ?_
 rintro t ⟨ht, hbt, hst⟩
 by_cases hlt2 : t < (el u.cl j).methods.length
 rotate_left
 ·have htl : n0 + t = (allM (u.cl.take (j + 1))).length := by omega
  repeat' (first | refine Qa ?_ | (refine Ba ?_ ?_ <;> try exact Za) | intro hc)
  rw [htl] at hbt hst ⊢
  exact ⟨j + 1, by dsimp only; omega, ⟨om, hbt, hst⟩, .su, .su⟩
 have hat := DW (n := n0 + t) hlt om om
 rw [show n0 + t - (allM (u.cl.take j)).length = t by omega] at hat
 have h6t := Cq ((iu ((fW hw.1).2 j hlt)).2.2.2.2 t hlt2)
 have hfe : fE u (n0 + t) = vY u.cl (el u.fns (n0 + t)) (el u.cl j).name (el (el u.cl j).methods t) := by unfold fE; rw [hat]
 rw [M7] at hfe
 have hlf : n0 + t < u.fns.length := by omega
 repeat' (first | refine Qa ?_ | (refine Ba ?_ ?_ <;> try exact Za) | refine bG (us := bh u.cl) ?_ rfl rfl ⟨by show 1 ≤ 3; decide, rfl⟩ | (refine aq (ao (uq ?_ ?_))) | exact h6t | intro hc)
 rotate_left
 ·have e := bc (f := fE u) (n := u.fns.length) hlf hbt rfl (by rw [hfe, if_pos (by assumption)]; assumption)
  rw [hfe, if_pos (by assumption)] at e
  specialize k ((n0 + t : Nat) : Int) (-1); unfold xM at k; replace k := Ik k; rw [e] at k; replace k := Ik k; exact E1 k
 have hz : l7 u.cl (el u.fns (n0 + t)) (el u.cl j).name (el (el u.cl j).methods t) = 0 := by assumption
 rw [if_neg (not_not.2 hz)] at hfe
 have hz2 := J6 hz
 refine aJ (fun m : Nat => [(1, .ptr 1 _ 0), (6, .int .i64 ((n0 + t : Nat) : Int)), (7, .int .i64 ((bH (u.fns.take (n0 + t)) + eP ((el u.fns (n0 + t)).code.take m) : Nat) : Int)), (9, .ptr 9 _ 0), (12, .ptr 12 _ 0), (23, pL 4 ia u.cl), (24, .int .i64 (u.cl.length : Nat)), (25, .int .i64 j), (30, pL 4 cL (el u.cl j).methods), (31, .int .i64 ((el u.cl j).methods.length : Nat)), (32, .int .i64 t), (54, .int .i64 ((el u.fns (n0 + t)).code.length : Nat)), (55, .int .i64 m)]) (fun _ => [(1, some _, .cells (bQ u)), (9, some _, .cells (ia (el u.cl j))), (12, some _, .cells (lA (el u.fns (n0 + t))))]) (fun m => m ≤ (el u.fns (n0 + t)).code.length ∧ ∀ i, i < m → o0 u.cl (el u.fns (n0 + t)) i = 0) (fun m => (el u.fns (n0 + t)).code.length - m) 0 ⟨Nat.zero_le _, fh⟩ .su .su ?_
 rintro m ⟨hm, hbm⟩
 have hcn := yg (l := (el u.fns (n0 + t)).code) (j := m)
 by_cases hlt3 : m < (el u.fns (n0 + t)).code.length
 ·have hcs := j8 hlt3
  repeat' (first | refine Qa ?_ | (refine Ba ?_ ?_ <;> try exact Za) | refine bG (us := bh u.cl) ?_ rfl rfl ⟨by show 1 ≤ 3; decide, rfl⟩ | (refine aq (ao (sT hk ?_ ?_ ?_))) | exact hlt3 | (show _ ≤ _; omega) | intro hc)
  ·rw [if_pos (by assumption)] at hcs
   rw [show ((bH (u.fns.take (n0 + t)) + eP ((el u.fns (n0 + t)).code.take m) : Nat) : Int) + 1 = ((bH (u.fns.take (n0 + t)) + eP ((el u.fns (n0 + t)).code.take (m + 1)) : Nat) : Int) by omega]
   (refine ⟨m + 1, by dsimp only; omega, ⟨om, fun i hi => ?_⟩, .su, .su⟩; by_cases q : i = m; (subst q; assumption); (exact hbm i om))
  ·rw [if_neg (by assumption)] at hcs
   rw [show ((bH (u.fns.take (n0 + t)) + eP ((el u.fns (n0 + t)).code.take m) : Nat) : Int) = ((bH (u.fns.take (n0 + t)) + eP ((el u.fns (n0 + t)).code.take (m + 1)) : Nat) : Int) by omega]
   (refine ⟨m + 1, by dsimp only; omega, ⟨om, fun i hi => ?_⟩, .su, .su⟩; by_cases q : i = m; (subst q; assumption); (exact hbm i om))
  ·have ei := bc (f := o0 u.cl (el u.fns (n0 + t))) hlt3 hbm rfl am
   rw [ei] at hfe
   have e := bc (f := fE u) (n := u.fns.length) hlf hbt hfe am
   specialize k ((n0 + t : Nat) : Int) m; unfold xM at k; replace k := Ik k; rw [e] at k; replace k := Ik k; exact E1 k
 ·have hml : m = (el u.fns (n0 + t)).code.length := by omega
  have hs := iR hlf
  rw [hml, List.take_length] at hcn ⊢
  rw [hml] at hbm
  rw [bY hbm] at hfe
  repeat' (first | refine Qa ?_ | (refine Ba ?_ ?_ <;> try exact Za) | intro hc)
  rw [show ((bH (u.fns.take (n0 + t)) + eP (el u.fns (n0 + t)).code : Nat) : Int) = ((bH (u.fns.take (n0 + (t + 1))) : Nat) : Int) by rw [show n0 + (t + 1) = n0 + t + 1 by omega, hs], show ((n0 + t : Nat) : Int) + 1 = ((n0 + (t + 1) : Nat) : Int) by omega]
  refine ⟨t + 1, by dsimp only; omega, ⟨om, fun i hi => ?_, by rw [show n0 + (t + 1) = n0 + t + 1 by omega, hs]; omega⟩, .su, .su⟩
  by_cases q : i = n0 + t
  ·subst q; exact hfe
  ·exact hbt i om
end Go.Proofs.YtgaihilgffficaaGreatDoor.Ev
