/- CoverStates, part 27 -/
import Derived.Test.YtgaihilgffficaaGreatDoorCvG
set_option linter.all false
set_option maxHeartbeats 4000000
namespace Go.Proofs.YtgaihilgffficaaGreatDoor.Ev
open Go
open Classical
def fZ : Nat := 17592186043904
noncomputable def iU (x : bJ) : List Int := (if hasB x.op 97 = true ∧ (x.op ≠ 13 ∨ x.a ≠ -1) then [x.a] else []) ++ (if hasB x.op 98 = true then [x.b] else []) ++ (if hasB x.op 108 = true then x.args else [])
theorem ff {b : Bool} (h : b = false) : ¬ b = true := by rw [h]; decide
theorem Cj {x : bJ} {K : PV → Prop} (ha : x.args.length ≤ fZ) (k : K (pL 1 pI (iU x))) : PF Tryz.prog X0 Mx 258 [.agg (fw x)] K := by
 refine Pf Ck fun hnt => ?_
 have ha' : x.args.length ≤ 17592186043904 := ha
 unfold iU at k
 repeat' (first | refine pg ?_ | refine aH ?_ | refine af ?_ | (refine aj ?_; intro b) | (refine aQ ?_ ?_ <;> intro hc <;> try first | contradiction | omega) | (refine aq (ao (c6 (fun hc => ?_) fun hc => ?_))) | (refine bw ?_; intro b) | (refine ti (f := pI) x.a ?_; intro od1) | (refine fi x.b ?_ rfl rfl rfl rfl rfl (fun _ => rfl) (by show (1 + 1) * _ ≤ _; omega); intro od2) | (refine ti (f := pI) x.b ?_; intro od2) | (refine x7 ?_ rfl rfl rfl (fun _ => rfl) (by show (_ + _) * _ ≤ _; simp; omega); intro odl) | (refine mI (l := []) (m := x.args) (f := pI) ?_ rfl rfl (.aO _) (.tr _ _) (fun i _ => rfl) (fun _ => rfl) (by show (0 + _) * _ ≤ _; omega); intro odl) | refine pc ?_ | refine pt ?_)
 all_goals first
  | (have hA : hasB x.op 97 = true ∧ (x.op ≠ 13 ∨ x.a ≠ -1) := ⟨am, by first | exact Or.inl am | exact Or.inr am⟩; rw [if_pos hA] at k)
  | (have hA : ¬ (hasB x.op 97 = true ∧ (x.op ≠ 13 ∨ x.a ≠ -1)) := fun q => by first | exact ff am q.1 | exact q.2.elim (fun w => w am) fun w => w am); rw [if_neg hA] at k
 all_goals first | rw [if_pos (by assumption)] at k | rw [if_neg (ff (by assumption))] at k
 all_goals first | rw [if_pos (by assumption)] at k | rw [if_neg (ff (by assumption))] at k
 all_goals first
  | exact ⟨Or.inr rfl, ⟨trivial, trivial⟩, _, _, rfl, fx, k⟩
  | exact E1 k
  | exact ⟨Or.inr rfl, ⟨trivial, trivial⟩, _, _, rfl, .aO 1 _, k⟩
def x8 (n : Nat) (x : bJ) : Prop := hasB x.op 100 = true → (0 ≤ x.dst ∧ x.dst < n) ∨ ((x.op = 9 ∨ x.op = 10) ∧ x.dst = -1)
def G8 (n : Nat) (x : bJ) : Prop := hasB x.op 103 = true → 0 ≤ x.goto ∧ x.goto < n
def tP (f : dN) (i : Int) : Prop := 0 ≤ i ∧ i < f.code.length ∧ (el f.code i.toNat).op = 15
def jv (f : dN) (x : bJ) : Prop := x8 f.vars.length x ∧ (∀ v ∈ iU x, 0 ≤ v ∧ v < f.vars.length) ∧ G8 f.code.length x ∧ (x.xR = -1 ∨ tP f x.xR)
theorem x9 {f : dN} {x : bJ} {K : PV → Prop} (ha : x.args.length ≤ fZ) (kt : jv f x → K (.bool true)) (kf : ¬ jv f x → K (.bool false)) : PF Tryz.prog X0 Mx 227 [.agg (lA f), .agg (fw x)] K := by
 refine Pf ya fun hnt => ?_
 repeat' (first | refine pg ?_ | refine aH ?_ | refine af ?_ | refine aa ?_ | (refine ai ?_; intro hl) | (refine aj ?_; intro b) | refine aC ?_ | refine aE ?_ | refine aN ?_ | refine ag ?_ | refine pc ?_ | refine pt ?_ | refine pb ?_)
 refine yb 5 19 (x.op = 9 ∨ x.op = 10) (fun b hcl => ?_) (fun J => ?_)
 rotate_left
 ·repeat' (first | (refine J _ _ .su rfl ?_) | refine pg ?_ | refine aH ?_ | refine af ?_ | refine aa ?_ | (refine ai ?_; intro hl) | (refine aj ?_; intro b) | (refine aQ ?_ ?_ <;> intro hc <;> try first | contradiction | omega) | refine aC ?_ | refine aE ?_ | refine aN ?_ | refine ag ?_ | refine pc ?_ | refine pt ?_ | refine pb ?_)
  all_goals (simp; omega)
 repeat' (first | refine pg ?_ | refine aH ?_ | refine af ?_ | refine aa ?_ | (refine ai ?_; intro hl) | (refine aj ?_; intro b) | (refine aQ ?_ ?_ <;> intro hc <;> try first | contradiction | omega) | refine aC ?_ | refine aE ?_ | refine aN ?_ | refine ag ?_ | refine pc ?_ | refine pt ?_ | refine pb ?_)
 refine cA 20 42 (¬ x8 f.vars.length x) (fun b hds => ?_) (fun J => ?_)
 rotate_left
 ·cases b
  all_goals repeat' (first | (refine J _ _ .su rfl ?_) | refine pg ?_ | refine aH ?_ | refine af ?_ | refine aa ?_ | (refine ai ?_; intro hl) | (refine aj ?_; intro b) | (refine aQ ?_ ?_ <;> intro hc <;> try first | contradiction | omega) | refine aC ?_ | refine aE ?_ | refine aN ?_ | refine ag ?_ | (refine aq (ao (c6 (fun hc => ?_) fun hc => ?_))) | refine pc ?_ | refine pt ?_ | refine pb ?_)
  all_goals (clear J; simp at hcl; unfold x8; first | (simp only [show hasB x.op 100 = true by assumption]; simp; omega) | (simp only [show hasB x.op 100 = false by assumption]; simp))
 cases b
 rotate_left
 ·repeat' (first | refine pg ?_ | refine aH ?_ | refine af ?_ | refine aa ?_ | (refine ai ?_; intro hl) | (refine aj ?_; intro b) | (refine aQ ?_ ?_ <;> intro hc <;> try first | contradiction | omega) | refine aC ?_ | refine aE ?_ | refine aN ?_ | refine ag ?_ | refine pc ?_ | refine pt ?_ | refine pb ?_)
  exact E1 (kf fun q => hds.1 rfl q.1)
 have hds' : x8 f.vars.length x := Classical.byContradiction fun q => by cases hds.2 q
 repeat' (first | refine pg ?_ | refine aH ?_ | refine af ?_ | refine aa ?_ | (refine ai ?_; intro hl) | (refine aj ?_; intro b) | (refine aQ ?_ ?_ <;> intro hc <;> try first | contradiction | omega) | refine aC ?_ | refine aE ?_ | refine aN ?_ | refine ag ?_ | refine aq (ao (Cj ha ?_)) | refine pc ?_ | refine pt ?_ | refine pb ?_)
 refine aJ (fun j : Nat => [(2, .ptr 2 _ 0), (3, .ptr 3 _ 0), (5, .int .i64 (f.vars.length : Nat)), (7, pL 1 pI (iU x)), (8, .int .i64 j)]) (fun _ => [(2, some _, .cells (lA f)), (3, some _, .cells (fw x))]) (fun j => j ≤ (iU x).length ∧ ∀ i, i < j → 0 ≤ el (iU x) i ∧ el (iU x) i < f.vars.length) (fun j => (iU x).length - j) 0 ⟨Nat.zero_le _, fh⟩ .su .su ?_
 rintro j ⟨hj, hb⟩
 by_cases hlt : j < (iU x).length
 ·repeat' (first | refine pg ?_ | refine aH ?_ | refine af ?_ | refine aa ?_ | (refine ai ?_; intro hl) | (refine aj ?_; intro b) | (refine aQ ?_ ?_ <;> intro hc <;> try first | contradiction | omega) | refine aC ?_ | refine aE ?_ | refine aN ?_ | refine ag ?_ | refine pc ?_ | refine pt ?_ | refine pb ?_)
  ·exact E1 (kf fun q => by have := q.2.1 _ (b8 hlt); omega)
  ·exact E1 (kf fun q => by have := q.2.1 _ (b8 hlt); omega)
  ·refine ⟨j + 1, by dsimp only; omega, ⟨om, fun i hi => ?_⟩, .su, .su⟩
   by_cases q : i = j
   ·subst q; constructor <;> omega
   ·exact hb i om
 ·repeat' (first | refine pg ?_ | refine aH ?_ | refine af ?_ | refine aa ?_ | (refine ai ?_; intro hl) | (refine aj ?_; intro b) | (refine aQ ?_ ?_ <;> intro hc <;> try first | contradiction | omega) | refine aC ?_ | refine aE ?_ | refine aN ?_ | refine ag ?_ | (refine aq (ao (c6 (fun hc => ?_) fun hc => ?_))) | refine pc ?_ | refine pt ?_ | refine pb ?_)
  all_goals have hU : ∀ v ∈ iU x, 0 ≤ v ∧ v < f.vars.length := fun v hv => by obtain ⟨i, hi, e⟩ := dn hv; rw [← e]; exact hb i om
  all_goals first
   | exact E1 (kt ⟨hds', hU, fun hq => by first | exact absurd hq (ff am) | (constructor <;> omega), by first | exact Or.inl am | exact Or.inr ⟨am, am, am⟩⟩)
   | exact E1 (kf fun q => by have q3 := q.2.2.1 am; omega)
   | exact E1 (kf fun q => q.2.2.2.elim am fun z => by first | exact absurd z.1 am | exact absurd z.2.1 am | exact absurd z.2.2 am)
def lR (o : Int) : Prop := o = 12 ∨ o = 13 ∨ o = 14
def rK (f : dN) (i : Nat) : Prop := (¬ lR (el f.code i).op ∧ (((i : Nat) : Int) + 1 = f.code.length ∨ (el f.code (((i : Nat) : Int) + 1).toNat).op = 15)) ∨ (hasB (el f.code i).op 103 = true ∧ (el f.code (el f.code i).goto.toNat).op = 15) ∨ (((i : Nat) : Int) = 0 ∧ (el f.code i).op = 15)
theorem yc {f : dN} {i : Nat} {K : PV → Prop} (hn : f.code.length ≤ 9223372036854775807) (hi : i < f.code.length) (hg : G8 f.code.length (el f.code i)) (kt : rK f i → K (.bool true)) (kf : ¬ rK f i → K (.bool false)) : PF Tryz.prog X0 Mx 228 [.agg (lA f), .int .i64 (i : Nat)] K := by
 refine Pf yd fun hnt => ?_
 repeat' (first | refine pg ?_ | refine aH ?_ | refine af ?_ | refine aa ?_ | (refine ai ?_; intro hl) | (refine aj ?_; intro b) | refine aC ?_ | refine aE ?_ | refine aN ?_ | refine ae ?_ | refine ay ?_ | refine pc ?_ | refine pt ?_)
 refine yb 10 24 (lR (el f.code i).op) (fun b hen => ?_) (fun J => ?_)
 rotate_left
 ·repeat' (first | (refine J _ _ .su rfl ?_) | refine pg ?_ | refine aH ?_ | refine af ?_ | refine aa ?_ | (refine ai ?_; intro hl) | (refine aj ?_; intro b) | (refine aQ ?_ ?_ <;> intro hc <;> try first | contradiction | omega) | refine aC ?_ | refine aE ?_ | refine aN ?_ | refine ae ?_ | refine pc ?_ | refine pt ?_)
  all_goals (unfold lR; simp; omega)
 cases b
 all_goals repeat' (first | refine pg ?_ | refine aH ?_ | refine af ?_ | refine aa ?_ | (refine ai ?_; intro hl) | (refine aj ?_; intro b) | (refine aQ ?_ ?_ <;> intro hc <;> try first | contradiction | omega) | refine aC ?_ | refine aE ?_ | refine aN ?_ | refine ae ?_ | (refine aq (ao (c6 (fun hc => (fun hg2 => ?_) (hg hc)) fun hc => ?_))) | refine pc ?_ | refine pt ?_)
 all_goals first
  | exact E1 (kt (by first | exact Or.inl ⟨fun q => (by cases hen.2 q), by first | exact Or.inl am | exact Or.inr am⟩ | exact Or.inr (Or.inl ⟨am, am⟩) | exact Or.inr (Or.inr ⟨am, am⟩)))
  | exact E1 (kf (by rintro (⟨q1, q2⟩ | ⟨q1, q2⟩ | ⟨q1, q2⟩) <;> first | exact q1 (hen.1 rfl) | exact q2.elim am am | exact absurd q1 (ff am) | exact absurd q1 am | exact absurd q2 am))
def vt (f : dN) (v : Int) : List Nat := (el f.vars v.toNat).ly
theorem nc {f : dN} {x : bJ} (hr : jv f x) (h : hasB x.op 97 = true) (h2 : x.op ≠ 13 ∨ x.a ≠ -1) : 0 ≤ x.a ∧ x.a < f.vars.length := hr.2.1 _ (by unfold iU; rw [if_pos ⟨h, h2⟩]; simp)
theorem B4 {f : dN} {x : bJ} (hr : jv f x) (h : hasB x.op 98 = true) : 0 ≤ x.b ∧ x.b < f.vars.length := hr.2.1 _ (by unfold iU; rw [if_pos h]; simp)
theorem GU {f : dN} {x : bJ} (hr : jv f x) (h : hasB x.op 108 = true) {i : Nat} (hi : i < x.args.length) : 0 ≤ el x.args i ∧ el x.args i < f.vars.length := hr.2.1 _ (by unfold iU; rw [if_pos h]; simp [b8 hi])
theorem xP {f : dN} {x : bJ} (hr : jv f x) (h : hasB x.op 100 = true) (h9 : x.op ≠ 9) (h10 : x.op ≠ 10) : 0 ≤ x.dst ∧ x.dst < f.vars.length := (hr.1 h).elim id fun q => by omega
def pe (cl : List aU) (c m : List Nat) (s : cz) : Prop := cb cl c m = some (c, s) ∧ s.static = true
noncomputable def xO (cl : List aU) (f : dN) (x : bJ) : Int := if ¬ vt f x.a ∈ bK cl then 8 else match cK cl (vt f x.a) x.name with
 | none => 6
 | some (_, d) => if (x.op = 7 ∧ ¬ iD cl d.ly (vt f x.dst)) ∨ (x.op = 8 ∧ ¬ iD cl (vt f x.b) d.ly) then 8 else 0
theorem tQ {cl : List aU} {c m : List Nat} {K : PV → Prop} (ct : cl.length ≤ 64) (kt : ∀ s, pe cl c m s → K (.bO [.agg (cL s), .bool true])) (kf : ∀ s, (¬ ∃ s, pe cl c m s) → K (.bO [.agg (cL s), .bool false])) : PF Tryz.prog X0 Mx 314 [.agg (bh cl), .str c, .str m] K := by
 refine Pf tR fun hnt => ?_
 repeat' (first | refine Qc ?_ | (refine Ba ?_ ?_ <;> try exact Za) | refine aj ?_ | refine ag ?_ | refine ae ?_ | (refine aq (ao (kJ ct (fun c1 s hL => ?_) fun hL => ?_))) | refine ay ?_ | intro hc)
 ·refine G9 [(9, some _, .cells (cL s))] [(1, .str c), (6, .ptr 6 _ 0), (8, .str _), (9, .fp (cL s) 0), (10, .bool _)] [(6, some _, .cells [.str [], .bool false, .aO, .str []])] (.cons rfl .nil) (.c (.c (.c (.cons rfl (.ptr _ _ _ _ _ rfl (.refl _)) (.c .nil))))) (.cons rfl rfl (.refl _) .nil) ?_
  repeat' (first | refine Qc ?_ | (refine Ba ?_ ?_ <;> try exact Za) | refine aj ?_ | refine ag ?_ | refine ae ?_ | refine aG ?_ | refine pd ?_ | refine ay ?_ | refine cH ?_ | intro hc)
  ·obtain rfl : c1 = c := by assumption
   have hs : s.static = true := by assumption
   have k2 := kt s ⟨hL, hs⟩
   exact ⟨Or.inr rfl, ⟨rfl, ⟨trivial, trivial⟩⟩, _, _, rfl, (.refl _), k2⟩
  ·have k2 := kf s (fun ⟨t, h1, h2⟩ => by rw [hL] at h1; cases h1; exact absurd h2 (ff am))
   exact ⟨Or.inr rfl, ⟨rfl, ⟨trivial, trivial⟩⟩, _, _, rfl, (.refl _), k2⟩
  ·have k2 := kf s (fun ⟨t, h1, h2⟩ => by rw [hL] at h1; cases h1; exact absurd rfl am)
   exact ⟨Or.inr rfl, ⟨rfl, ⟨trivial, trivial⟩⟩, _, _, rfl, (.refl _), k2⟩
 ·refine G9 [(9, some _, .cells (cL default))] [(1, .str c), (6, .ptr 6 _ 0), (8, .str _), (9, .fp (cL default) 0), (10, .bool _)] [(6, some _, .cells [.str [], .bool false, .aO, .str []])] (.cons rfl .nil) (.c (.c (.c (.cons rfl (.ptr _ _ _ _ _ rfl (.refl _)) (.c .nil))))) (.cons rfl rfl (.refl _) .nil) ?_
  repeat' (first | refine Qc ?_ | (refine Ba ?_ ?_ <;> try exact Za) | refine aj ?_ | refine ag ?_ | refine ae ?_ | refine aG ?_ | refine pd ?_ | refine ay ?_ | refine cH ?_ | intro hc)
  have k2 := kf default (fun ⟨t, h1, h2⟩ => by rw [hL] at h1; cases h1)
  exact ⟨Or.inr rfl, ⟨rfl, ⟨trivial, trivial⟩⟩, _, _, rfl, (.refl _), k2⟩
theorem ye {cl : List aU} {f : dN} {x : bJ} {K : PV → Prop} (ct : cl.length ≤ 64) (hr : jv f x) (hop : x.op = 7 ∨ x.op = 8) (k : K (.int .i64 (xO cl f x))) : PF Tryz.prog X0 Mx 261 [.agg (bh cl), .agg (lA f), .agg (fw x)] K := by
 refine Pf yf fun hnt => ?_
 have qa := nc hr (by rcases hop with q | q <;> rw [q] <;> decide) om
 have qd : x.op = 7 → 0 ≤ x.dst ∧ x.dst < f.vars.length := fun q => xP hr (by rw [q]; decide) om om
 have qb : x.op = 8 → 0 ≤ x.b ∧ x.b < f.vars.length := fun q => B4 hr (by rw [q]; decide)
 repeat' (first | refine Qb ?_ | (refine aj ?_; intro b) | (refine Ba ?_ ?_ <;> intro hc <;> try exact Zb) | refine aG ?_ | refine pd ?_ | (refine aq (ao (gR (fun hc => ?_) fun hc => ?_))) | (refine aq (ao (rL ct (fun c d hF => ?_) fun hF => ?_))) | (refine dW (aM (gG ct (fun hc => ?_) fun hc => ?_))))
 all_goals unfold xO vt at k
 all_goals first
  | rw [if_pos (by assumption)] at k
  | rw [if_neg (not_not.2 (by assumption)), hF] at k
 all_goals try dsimp only at k
 all_goals try first
  | rw [if_pos (Or.inl ⟨by assumption, by assumption⟩)] at k
  | rw [if_pos (Or.inr ⟨by assumption, by assumption⟩)] at k
  | rw [if_neg (by rintro (⟨q1, q2⟩ | ⟨q1, q2⟩) <;> first | exact absurd q1 (by assumption) | exact q2 (by assumption))] at k
 all_goals exact E1 k
def zJ (cl : List aU) (x : bJ) (s : cz) : Prop := (x.op = 9 ∧ ∃ c, cb cl x.cls x.name = some (c, s) ∧ s.static = false) ∨ (x.op = 10 ∧ pe cl x.cls x.name s)
noncomputable def tG (cl : List aU) (f : dN) (x : bJ) (s : cz) : Int := if s.params.length ≠ x.args.length then 9 else if ∃ i, i < x.args.length ∧ ¬ iD cl (vt f (el x.args i)) (el s.params i) then 8 else if x.dst ≠ -1 ∧ (s.result = [] ∨ ¬ iD cl s.result (vt f x.dst)) then 8 else 0
noncomputable def na (cl : List aU) (f : dN) (x : bJ) : Int := if x.op = 9 ∧ ¬ (vt f x.a ∈ bK cl ∧ vt f x.a = x.cls) then 8 else if h : ∃ s, zJ cl x s then tG cl f x h.choose else 6
theorem Ha {cl : List aU} {x : bJ} {s t : cz} (h1 : zJ cl x s) (h2 : zJ cl x t) : s = t := by
 rcases h1 with ⟨a, c, b, _⟩ | ⟨a, b, _⟩ <;> rcases h2 with ⟨a', c', b', _⟩ | ⟨a', b', _⟩
 ·rw [b] at b'; cases b'; rfl
 ·omega
 ·omega
 ·rw [b] at b'; cases b'; rfl
theorem tS {cl : List aU} {f : dN} {x : bJ} {s : cz} (h1 : ¬ (x.op = 9 ∧ ¬ (vt f x.a ∈ bK cl ∧ vt f x.a = x.cls))) (h : zJ cl x s) : na cl f x = tG cl f x s := by
 have h2 : ∃ s, zJ cl x s := ⟨s, h⟩
 unfold na
 rw [if_neg h1, dif_pos h2, Ha h2.choose_spec h]
theorem tj {cl : List aU} {f : dN} {x : bJ} (h1 : ¬ (x.op = 9 ∧ ¬ (vt f x.a ∈ bK cl ∧ vt f x.a = x.cls))) (h : ¬ ∃ s, zJ cl x s) : na cl f x = 6 := by
 unfold na
 rw [if_neg h1, dif_neg h]
theorem sA {cl : List aU} {f : dN} {x : bJ} {K : PV → Prop} (ct : cl.length ≤ 64) (hr : jv f x) (hop : x.op = 9 ∨ x.op = 10) (k : K (.int .i64 (na cl f x))) : PF Tryz.prog X0 Mx 262 [.agg (bh cl), .agg (lA f), .agg (fw x)] K := by
 refine Pf sB fun hnt => ?_
 have qa : x.op = 9 → 0 ≤ x.a ∧ x.a < f.vars.length := fun q => nc hr (by rw [q]; decide) om
 have ql : ∀ i, i < x.args.length → 0 ≤ el x.args i ∧ el x.args i < f.vars.length := fun i hi => GU hr (by rcases hop with q | q <;> rw [q] <;> decide) hi
 have qd := hr.1 (by rcases hop with q | q <;> rw [q] <;> decide)
 repeat' (first | refine Qc ?_ | (refine Ba ?_ ?_ <;> try exact Za) | refine af ?_ | refine aa ?_ | refine ai ?_ | refine aj ?_ | refine ag ?_ | refine aG ?_ | refine pd ?_ | refine ay ?_ | (refine aq (ao (gR (fun hc => ?_) fun hc => ?_))) | (refine aq (ao (kJ ct (fun c s hL => ?_) fun hL => ?_))) | (refine aq (ao (tQ ct (fun s hD => ?_) fun s hD => ?_))) | refine pb ?_ | intro hc)
 case refine_1.refine_1.refine_2 => unfold na vt at k; rw [if_pos ⟨by assumption, fun q => absurd q.2 (by assumption)⟩] at k; exact E1 k
 case refine_1.refine_2 => unfold na vt at k; rw [if_pos ⟨by assumption, fun q => absurd q.1 (by assumption)⟩] at k; exact E1 k
 case refine_2.refine_2 => rw [tj (fun q => absurd q.1 (by assumption)) (fun ⟨t, q⟩ => q.elim (fun q => absurd q.1 (by assumption)) fun q => hD ⟨t, q.2⟩)] at k; exact E1 k
 case refine_1.refine_1.refine_1.refine_1.refine_1 =>
  have e9 : x.op = 9 := by assumption
  have ec : (el f.vars x.a.toNat).ly = x.cls := by assumption
  rw [ec] at hL
  rw [tj (fun q => q.2 ⟨by assumption, ec⟩) (fun ⟨t, q⟩ => by rcases q with ⟨_, c', q, q2⟩ | ⟨q, _⟩; (rw [hL] at q; cases q; simp_all); omega)] at k; exact E1 k
 case refine_1.refine_1.refine_1.refine_2 =>
  have e9 : x.op = 9 := by assumption
  have ec : (el f.vars x.a.toNat).ly = x.cls := by assumption
  rw [ec] at hL
  rw [tj (fun q => q.2 ⟨by assumption, ec⟩) (fun ⟨t, q⟩ => by rcases q with ⟨_, c', q, q2⟩ | ⟨q, _⟩; (rw [hL] at q; cases q); omega)] at k; exact E1 k
 all_goals
  have hS : na cl f x = tG cl f x s := by
   by_cases e9 : x.op = 9
   ·first
      | exact absurd e9 am
      | (have ec : (el f.vars x.a.toNat).ly = x.cls := by assumption
         exact tS (fun q => q.2 ⟨am, ec⟩) (Or.inl ⟨e9, _, by rw [← ec]; assumption, am⟩))
   ·first
      | exact absurd am e9
      | exact tS (fun q => e9 q.1) (Or.inr ⟨om, am⟩)
 all_goals rw [hS] at k
 all_goals unfold tG at k
 all_goals first
  | (rw [if_pos (by omega)] at k; exact E1 k)
  | rw [if_neg (by omega)] at k
 all_goals
  refine aJ (fun j : Nat => [(3, .ptr 3 _ 0), (4, .ptr 4 _ 0), (5, .ptr 5 _ 0), (7, .ptr 7 _ 0), (10, .int .i64 j)]) (fun _ => [(3, some _, .cells (bh cl)), (4, some _, .cells (lA f)), (5, some _, .cells (fw x)), (7, some _, .cells (cL s))]) (fun j => j ≤ x.args.length ∧ ∀ i, i < j → iD cl (vt f (el x.args i)) (el s.params i)) (fun j => x.args.length - j) 0 ⟨Nat.zero_le _, fh⟩ .su .su ?_
  rintro j ⟨hj, hb⟩
  have qj := ql j
  repeat' (first | refine Qc ?_ | (refine Ba ?_ ?_ <;> try exact Za) | refine af ?_ | refine aa ?_ | refine ai ?_ | refine aj ?_ | refine ag ?_ | refine aG ?_ | refine pd ?_ | refine ay ?_ | (refine dW (aM (gG ct (fun hc => ?_) fun hc => ?_))) | refine pb ?_ | intro hc)
 all_goals first
  | (refine ⟨j + 1, by dsimp only; omega, ⟨om, fun i hi => ?_⟩, .su, .su⟩; by_cases q : i = j; (subst q; assumption); (exact hb i om))
  | (rw [if_pos ⟨j, by omega, by assumption⟩] at k; exact E1 k)
  | rw [if_neg (fun ⟨i, hi, q⟩ => q (hb i (by omega)))] at k
 all_goals first
  | (rw [if_pos ⟨by assumption, Or.inl (by assumption)⟩] at k; exact E1 k)
  | (rw [if_pos ⟨by assumption, Or.inr (by assumption)⟩] at k; exact E1 k)
  | (rw [if_neg (fun q => q.1 (by assumption))] at k; exact E1 k)
  | (rw [if_neg (fun q => q.2.elim (by assumption) fun w => w (by assumption))] at k; exact E1 k)
theorem Pu {f : dN} {x : bJ} (hr : jv f x) (h : hasB x.op 97 = true) : x.a = -1 ∨ (0 ≤ x.a ∧ x.a < f.vars.length) := by
 by_cases q : x.a = -1
 ·exact Or.inl q
 ·exact Or.inr (nc hr h (Or.inr q))
def lX (cl : List aU) (f : dN) (x : bJ) : Prop := (x.op = 1 ∨ x.op = 5 → vt f x.dst = gZ) ∧ (x.op = 2 → vt f x.dst ≠ gZ) ∧ (x.op = 3 → iD cl (vt f x.a) (vt f x.dst)) ∧ (x.op = 16 → vt f x.a = gZ ∧ vt f x.dst = gZ) ∧ (x.op = 11 → vt f x.a = gZ) ∧ (x.op = 14 → vt f x.a ≠ gZ) ∧ (x.op = 4 → vt f x.dst = gZ ∧ ((vt f x.a = gZ ∧ vt f x.b = gZ) ∨ (x.n = 5 ∧ vt f x.a ≠ gZ ∧ vt f x.b ≠ gZ))) ∧ (x.op = 13 → x.a = -1 ∨ iD cl (vt f x.a) f.result)
theorem Cl {cl : List aU} {f : dN} {x : bJ} {K : PV → Prop} (ct : cl.length ≤ 64) (hr : jv f x) (hop : x.op = 0 ∨ x.op = 1 ∨ x.op = 2 ∨ x.op = 3 ∨ x.op = 4 ∨ x.op = 5 ∨ x.op = 11 ∨ x.op = 12 ∨ x.op = 13 ∨ x.op = 14 ∨ x.op = 16) (kt : lX cl f x → K (.bool true)) (kf : ¬ lX cl f x → K (.bool false)) : PF Tryz.prog X0 Mx 263 [.agg (bh cl), .agg (lA f), .agg (fw x)] K := by
 refine Pf Cm fun hnt => ?_
 rcases hop with ho | ho | ho | ho | ho | ho | ho | ho | ho | ho | ho
 all_goals repeat' (first | refine Qa ?_ | (refine Ba ?_ ?_ <;> try exact Za) | (refine aq (ao (c6 (fun hc => ?_) fun hc => ?_)) <;> first | exact absurd hc (by rw [ho]; decide) | (have q1 := xP hr hc om om) | (have q1 := nc hr hc om) | (have q1 := Pu hr hc) | (have q1 := B4 hr hc) | skip) | (refine aq (ao (gG ct (fun hc => ?_) fun hc => ?_))) | intro hc)
 all_goals first
  | exact E1 (kt (by unfold lX vt; refine ⟨fun q => ?_, fun q => ?_, fun q => ?_, fun q => ?_, fun q => ?_, fun q => ?_, fun q => ?_, fun q => ?_⟩ <;> first | (exfalso; omega) | assumption | exact ⟨am, am⟩ | exact ⟨am, Or.inl ⟨am, am⟩⟩ | exact ⟨am, Or.inr ⟨am, am, am⟩⟩ | exact Or.inl am | exact Or.inr am))
  | exact E1 (kf fun q => by unfold lX vt at q; obtain ⟨q1, q2, q3, q4, q5, q6, q7, q8⟩ := q; first | exact absurd (q1 om) am | exact q2 om am| exact absurd (q3 om) am | exact absurd (q4 om).1 am | exact absurd (q4 om).2 am | exact absurd (q5 om) am | exact q6 om am | exact absurd (q7 om).1 am | exact (q7 om).2.elim (fun w => by first | exact absurd w.1 am | exact absurd w.2 am) (fun w => by first | exact absurd w.1 am | exact w.2.1 am | exact w.2.2 am) | exact (q8 om).elim am am)
noncomputable def iQ (cl : List aU) (f : dN) (x : bJ) : Int := if x.op = 6 ∨ x.op = 15 then (if ¬ x.cls ∈ bK cl then 6 else if ¬ iD cl x.cls (vt f x.dst) then 8 else 0) else if x.op = 7 ∨ x.op = 8 then xO cl f x else if x.op = 9 ∨ x.op = 10 then na cl f x else if x.op = 13 ∧ ¬ (x.a = -1 ↔ f.result = []) then 9 else if lX cl f x then 0 else 8
noncomputable def o0 (cl : List aU) (f : dN) (i : Nat) : Int := if ¬ (0 ≤ (el f.code i).op ∧ (el f.code i).op < 17) ∨ ((el f.code i).op = 4 ∧ ((el f.code i).n < 1 ∨ 5 < (el f.code i).n)) then 12 else if ¬ E0 (el f.code i) then 1 else if ¬ jv f (el f.code i) then 4 else if rK f i then 1 else iQ cl f (el f.code i)
theorem z8 {cl : List aU} {f : dN} {x : bJ} {K : PV → Prop} (ct : cl.length ≤ 64) (hr : jv f x) (hk : 0 ≤ x.op ∧ x.op < 17) (k : K (.int .i64 (iQ cl f x))) : PF Tryz.prog X0 Mx 229 [.agg (bh cl), .agg (lA f), .agg (fw x)] K := by
 refine Pf Aa fun hnt => ?_
 have qd : x.op = 6 ∨ x.op = 15 → 0 ≤ x.dst ∧ x.dst < f.vars.length := fun q => xP hr (by rcases q with q | q <;> rw [q] <;> decide) om om
 repeat' (first | refine Qa ?_ | (refine Ba ?_ ?_ <;> try exact Za) | (refine aq (ao (gR (fun hc => ?_) fun hc => ?_))) | (refine dW (aM (gG ct (fun hc => ?_) fun hc => ?_))) | (refine aq (ao (gG ct (fun hc => ?_) fun hc => ?_))) | refine aq (ao (ye ct hr om ?_)) | refine aq (ao (sA ct hr om ?_)) | (refine aq (ao (Cl ct hr om (fun hc => ?_) fun hc => ?_))) | intro hc)
 all_goals unfold iQ vt at k
 all_goals replace k := Ik k
 all_goals try first
  | rw [if_neg (fun q => absurd q.1 (by assumption))] at k
  | rw [if_neg (fun q => q.2 ⟨fun _ => by assumption, fun _ => by assumption⟩)] at k
  | rw [if_neg (fun q => q.2 ⟨fun w => absurd w (by assumption), fun w => absurd w (by assumption)⟩)] at k
  | rw [if_pos ⟨by assumption, fun q => (by assumption : ¬ f.result = []) (q.1 (by assumption))⟩] at k
  | rw [if_pos ⟨by assumption, fun q => (by assumption : ¬ x.a = -1) (q.2 (by assumption))⟩] at k
 all_goals replace k := Ik k
 all_goals exact E1 k
theorem Ab {cl : List aU} {f : dN} {i : Nat} {K : PV → Prop} (ct : cl.length ≤ 64) (hn : f.code.length ≤ 9223372036854775807) (hi : i < f.code.length) (ha : (el f.code i).args.length ≤ fZ) (k : K (.int .i64 (o0 cl f i))) : PF Tryz.prog X0 Mx 188 [.agg (bh cl), .agg (lA f), .int .i64 (i : Nat)] K := by
 refine Pf Ac fun hnt => ?_
 repeat' (first | refine Qa ?_ | (refine Ba ?_ ?_ <;> try exact Za) | (refine aq (ao (n4 ?_))) | (refine aq (ao (xZ (fun hc => ?_) fun hc => ?_))) | (refine aq (ao (x9 ha (fun hc => ?_) fun hc => ?_))) | intro hc)
 all_goals try (have hr : jv f (el f.code i) := by assumption)
 case refine_1 =>
  have hk := iM.1 am
  unfold o0 at k; rw [if_pos (Or.inl hk)] at k; exact E1 k
 all_goals have hk : 0 ≤ (el f.code i).op ∧ (el f.code i).op < 17 := Classical.not_not.1 (mt iM.2 am)
 all_goals try repeat' (first | refine Qa ?_ | (refine Ba ?_ ?_ <;> try exact Za) | (refine aq (ao (yc hn hi hr.2.2.1 (fun hc => ?_) fun hc => ?_))) | refine aq (ao (z8 ct hr hk ?_)) | intro hc)
 all_goals unfold o0 at k
 all_goals first
  | (rw [if_pos (Or.inr (by omega))] at k; exact E1 k)
  | rw [if_neg (by omega)] at k
 all_goals replace k := Ik k
 all_goals exact E1 k
theorem J2 {P : Program} {X : dg} {M : Mf} {nt : Nat} {G : aZ} {S : aX} (k slot : Nat) (Pr : Prop) {ops : List SR} {Q : aZ → aX → Prop} (h2 : ∀ b, (b = true ↔ Pr) → PG P X M nt (ops.drop k) ((slot, .bool b) :: G) S Q) (h1 : (∀ G' b, jy G' G → fJ G' slot = some (.bool b) → (b = true ↔ Pr) → PG P X M nt (ops.drop k) G' S Q) → PG P X M nt ops G S Q) : PG P X M nt ops G S Q :=
 h1 fun _ b hs hl hp => Cn (.cons hl (.refl _) hs) (h2 b hp)
def DV : List Nat := [116, 104, 105, 115]
def pf (f : dN) (i : Nat) : Prop := (i : Int) = 0 ∧ f.static = false ∧ (el f.vars i).name = DV
noncomputable def kd (cl : List aU) (f : dN) (i : Nat) : Int := if ¬ pf f i ∧ ¬ kK (el f.vars i).name then 5 else if (el f.vars i).ly ≠ pa ∧ ¬ sq cl (el f.vars i).ly then 8 else 0
theorem Ad {cl : List aU} {f : dN} {K : PV → Prop} (k : K (.int .i64 (bB (kd cl f) f.vars.length))) : PF Tryz.prog X0 Mx 187 [.agg (bh cl), .agg (lA f)] K := by
 refine Pf Ae fun hnt => ?_
 repeat' (first | refine pg ?_ | refine aH ?_ | (refine ar ?_ ?_ <;> intro hc <;> try contradiction) | refine af ?_ | refine aa ?_ | (refine ai ?_; intro hl) | (refine aj ?_; intro b) | (refine aQ ?_ ?_ <;> intro hc <;> try first | contradiction | omega) | refine aC ?_ | refine aN ?_ | refine ag ?_ | refine pc ?_ | refine pt ?_ | refine pb ?_)
 refine aJ (fun j : Nat => [(2, .ptr 2 _ 0), (3, .ptr 3 _ 0), (5, .int .i64 j)]) (fun _ => [(2, some _, .cells (bh cl)), (3, some _, .cells (lA f))]) (fun j => j ≤ f.vars.length ∧ ∀ i, i < j → kd cl f i = 0) (fun j => f.vars.length - j) 0 ⟨Nat.zero_le _, fh⟩ .su .su ?_
 rintro j ⟨hj, hb⟩
 repeat' (first | refine pg ?_ | refine aH ?_ | (refine ar ?_ ?_ <;> intro hc <;> try contradiction) | refine af ?_ | refine aa ?_ | (refine ai ?_; intro hl) | (refine aj ?_; intro b) | refine aC ?_ | refine aN ?_ | refine ag ?_ | refine pc ?_ | refine pt ?_ | refine pb ?_)
 refine aQ ?_ ?_ <;> intro hc
 rotate_left
 ·repeat' (first | refine pg ?_ | refine aH ?_ | (refine ar ?_ ?_ <;> intro hc <;> try contradiction) | refine af ?_ | refine aa ?_ | (refine ai ?_; intro hl) | (refine aj ?_; intro b) | (refine aQ ?_ ?_ <;> intro hc <;> try first | contradiction | omega) | refine aC ?_ | refine aN ?_ | refine ag ?_ | refine pc ?_ | refine pt ?_ | refine pb ?_)
  rw [bY fun x hx => hb x (by omega)] at k
  exact E1 k
 repeat' (first | refine pg ?_ | refine aH ?_ | (refine ar ?_ ?_ <;> intro hc <;> try contradiction) | refine af ?_ | refine aa ?_ | (refine ai ?_; intro hl) | (refine aj ?_; intro b) | refine aC ?_ | refine aN ?_ | refine ag ?_ | refine aG ?_ | refine pd ?_ | refine sC.mk rfl ?_ | refine pc ?_ | refine pt ?_ | refine pb ?_)
 refine yb 9 38 (pf f j) (fun b hth => ?_) (fun J => ?_)
 rotate_left
 ·repeat' (first | (refine J _ _ .su rfl ?_) | refine pg ?_ | refine aH ?_ | (refine ar ?_ ?_ <;> intro hc <;> try contradiction) | refine af ?_ | refine aa ?_ | (refine ai ?_; intro hl) | (refine aj ?_; intro b) | (refine aQ ?_ ?_ <;> intro hc <;> try first | contradiction | omega) | refine aC ?_ | refine aN ?_ | refine ag ?_ | refine pc ?_ | refine pt ?_ | refine pb ?_)
  all_goals (clear J; unfold pf DV; first | (simp [*]; done) | (simp [*]; intro h; omega))
 repeat' (first | refine pg ?_ | refine aH ?_ | (refine ar ?_ ?_ <;> intro hc <;> try contradiction) | refine af ?_ | refine aa ?_ | (refine ai ?_; intro hl) | (refine aj ?_; intro b) | (refine aQ ?_ ?_ <;> intro hc <;> try first | contradiction | omega) | refine aC ?_ | refine aN ?_ | refine ag ?_ | refine pc ?_ | refine pt ?_ | refine pb ?_)
 refine J2 25 66 (¬ pf f j ∧ ¬ kK (el f.vars j).name) (fun b hnm => ?_) (fun J => ?_)
 rotate_left
 ·cases b
  all_goals repeat' (first | (refine J _ _ .su rfl ?_) | refine pg ?_ | refine aH ?_ | (refine ar ?_ ?_ <;> intro hc <;> try contradiction) | refine af ?_ | refine aa ?_ | (refine ai ?_; intro hl) | (refine aj ?_; intro b) | (refine aQ ?_ ?_ <;> intro hc <;> try first | contradiction | omega) | refine aC ?_ | refine aN ?_ | refine ag ?_ | (refine aq (ao (dJ (fun hc => ?_) fun hc => ?_))) | refine eQ ?_ | (refine aq (ao (vR ?_ (fun hc => ?_) fun hc => ?_))) | (refine qK ?_ rfl rfl rfl om om om) | refine pc ?_ | refine pt ?_ | refine pb ?_)
  all_goals clear J
  all_goals try simp only [DU] at *
  all_goals first
   | (simp; omega)
   | (have hT : ¬ pf f j := (fun q => by cases hth.2 q)
      first
       | (have hv : kK (el f.vars j).name := by first | exact Or.inr am | exact Or.inl ⟨om, om, om, am⟩
          simp [hT, hv])
       | (have hv : ¬ kK (el f.vars j).name := fun q => q.elim (fun w => by first | omega | exact absurd w.2.2.2 am | (have := w.2.2.1; omega) | (have := w.2.2.2.2; rw [List.length_drop] at this; omega)) am
          simp [hT, hv]))
   | (simp_all; done)
 cases b
 rotate_left
 ·repeat' (first | refine pg ?_ | refine aH ?_ | (refine ar ?_ ?_ <;> intro hc <;> try contradiction) | refine af ?_ | refine aa ?_ | (refine ai ?_; intro hl) | (refine aj ?_; intro b) | (refine aQ ?_ ?_ <;> intro hc <;> try first | contradiction | omega) | refine aC ?_ | refine aN ?_ | refine ag ?_ | refine pc ?_ | refine pt ?_ | refine pb ?_)
  have e : kd cl f j = 5 := by unfold kd; rw [if_pos (hnm.1 rfl)]
  rw [bc (by omega) hb e (by decide)] at k
  exact E1 k
 have hnn : ¬ (¬ pf f j ∧ ¬ kK (el f.vars j).name) := fun q => by cases hnm.2 q
 repeat' (first | refine pg ?_ | refine aH ?_ | (refine ar ?_ ?_ <;> intro hc <;> try contradiction) | refine af ?_ | refine aa ?_ | (refine ai ?_; intro hl) | (refine aj ?_; intro b) | (refine aQ ?_ ?_ <;> intro hc <;> try first | contradiction | omega) | refine aC ?_ | refine aN ?_ | refine ag ?_ | (refine aq (ao (iT (fun hc => ?_) fun hc => ?_))) | refine pc ?_ | refine pt ?_ | refine pb ?_)
 ·refine ⟨j + 1, by dsimp only; omega, ⟨om, fun i hi => ?_⟩, .su, .su⟩
  by_cases q : i = j
  ·subst q; unfold kd; rw [if_neg hnn, if_neg fun q => q.1 hc]
  ·exact hb i om
 ·refine ⟨j + 1, by dsimp only; omega, ⟨om, fun i hi => ?_⟩, .su, .su⟩
  by_cases q : i = j
  ·subst q; unfold kd; rw [if_neg hnn, if_neg fun q => q.2 hc]
  ·exact hb i om
 ·have e : kd cl f j = 8 := by unfold kd; rw [if_neg hnn, if_pos ⟨by assumption, hc⟩]
  rw [bc (by omega) hb e (by decide)] at k
  exact E1 k
def pn (s : cz) : Int := (s.params.length : Int) + (if s.static = true then 0 else 1)
def nJ (f : dN) (c : List Nat) (s : cz) : Prop := f.cls = c ∧ f.name = s.name ∧ f.static = s.static ∧ f.result = s.result ∧ f.params = pn s ∧ pn s ≤ f.vars.length ∧ (s.static = false → (el f.vars 0).name = DV ∧ (el f.vars 0).ly = c) ∧ ∀ i : Nat, i < s.params.length → (el f.vars (pn s - s.params.length + i).toNat).ly = el s.params i
theorem Co {f : dN} {c : List Nat} {s : cz} {K : PV → Prop} (h6 : s.params.length ≤ 6) (kt : nJ f c s → K (.bool true)) (kf : ¬ nJ f c s → K (.bool false)) : PF Tryz.prog X0 Mx 186 [.agg (lA f), .str c, .agg (cL s)] K := by
 refine Pf Cp fun hnt => ?_
 have hp : pn s = (s.params.length : Int) + (if s.static = true then 0 else 1) := rfl
 cases hs : s.static
 all_goals rw [hs] at hp
 all_goals simp at hp
 all_goals repeat' (first | refine Qc ?_ | (refine ar ?_ ?_ <;> intro hc <;> try first | contradiction | (exfalso; rw [hs] at hc; cases hc; done)) | refine af ?_ | refine aa ?_ | refine ai ?_ | refine aj ?_ | (refine Ba ?_ ?_ <;> try exact Za) | refine pb ?_ | intro hc)
 all_goals try (exact E1 (kf fun ⟨q1, q2, q3, q4, q5, q6, q7, q8⟩ => by first | exact absurd q1 am | exact absurd q2 am | (rw [hs, (by assumption : f.static = true)] at q3; cases q3; done) | (rw [hs, (by assumption : f.static = false)] at q3; cases q3; done) | exact absurd q4 am | (rw [hp] at q5; exact absurd q5 am) | (rw [hp] at q6; omega) | exact absurd (q7 hs).1 am | exact absurd (q7 hs).2 am))
 all_goals have hff : f.static = s.static := by rw [hs]; assumption
 ·refine aJ (fun j : Nat => [(1, .str c), (3, .ptr 3 _ 0), (5, .ptr 5 _ 0), (7, .int .i64 ((s.params.length : Int) + 1)), (8, .int .i64 j)]) (fun _ => [(3, some _, .cells (lA f)), (5, some _, .cells (cL s))]) (fun j => j ≤ s.params.length ∧ ∀ i, i < j → (el f.vars (pn s - s.params.length + (i : Nat)).toNat).ly = el s.params i) (fun j => s.params.length - j) 0 ⟨Nat.zero_le _, fh⟩ .su .su ?_
  rintro j ⟨hj, hb⟩
  repeat' (first | refine Qc ?_ | (refine ar ?_ ?_ <;> intro hc <;> try first | contradiction | (exfalso; rw [hs] at hc; cases hc; done)) | refine af ?_ | refine aa ?_ | refine ai ?_ | refine aj ?_ | (refine Ba ?_ ?_ <;> try exact Za) | refine aG ?_ | refine pd ?_ | refine gH ?_ | refine pb ?_ | intro hc)
  ·refine ⟨j + 1, by dsimp only; omega, ⟨om, fun i hi => ?_⟩, .su, .su⟩
   by_cases q : i = j
   ·subst q; rw [hp]; assumption
   ·exact hb i om
  ·exact E1 (kf fun q => by have q8 := q.2.2.2.2.2.2.2 j om; rw [hp] at q8; exact absurd q8 am)
  ·exact E1 (kt ⟨am, am, hff, am, by rw [hp]; assumption, by rw [hp]; omega, fun q => by first | exact ⟨am, am⟩ | (rw [hs] at q; cases q), fun i hi => hb i om⟩)
 ·refine aJ (fun j : Nat => [(1, .str c), (3, .ptr 3 _ 0), (5, .ptr 5 _ 0), (7, .int .i64 (s.params.length : Int)), (8, .int .i64 j)]) (fun _ => [(3, some _, .cells (lA f)), (5, some _, .cells (cL s))]) (fun j => j ≤ s.params.length ∧ ∀ i, i < j → (el f.vars (pn s - s.params.length + (i : Nat)).toNat).ly = el s.params i) (fun j => s.params.length - j) 0 ⟨Nat.zero_le _, fh⟩ .su .su ?_
  rintro j ⟨hj, hb⟩
  repeat' (first | refine Qc ?_ | (refine ar ?_ ?_ <;> intro hc <;> try first | contradiction | (exfalso; rw [hs] at hc; cases hc; done)) | refine af ?_ | refine aa ?_ | refine ai ?_ | refine aj ?_ | (refine Ba ?_ ?_ <;> try exact Za) | refine aG ?_ | refine pd ?_ | refine gH ?_ | refine pb ?_ | intro hc)
  ·refine ⟨j + 1, by dsimp only; omega, ⟨om, fun i hi => ?_⟩, .su, .su⟩
   by_cases q : i = j
   ·subst q; rw [hp]; assumption
   ·exact hb i om
  ·exact E1 (kf fun q => by have q8 := q.2.2.2.2.2.2.2 j om; rw [hp] at q8; exact absurd q8 am)
  ·exact E1 (kt ⟨am, am, hff, am, by rw [hp]; assumption, by rw [hp]; omega, fun q => by first | exact ⟨am, am⟩ | (rw [hs] at q; cases q), fun i hi => hb i om⟩)
end Go.Proofs.YtgaihilgffficaaGreatDoor.Ev
