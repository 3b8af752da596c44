/- CoverStates, part 30 -/
import Derived.Test.YtgaihilgffficaaGreatDoorCvX
set_option linter.all false
set_option maxHeartbeats 4000000
namespace Go.Proofs.YtgaihilgffficaaGreatDoor.Ev
open Go
open Classical
theorem sQ {x : bJ} {K : PV → Prop} (kt : E0 x → K (.bool true)) (kf : ¬ E0 x → K (.bool false)) : PF Tryz.prog X0 Mx 102 [.agg (fw x)] K := by
 refine Pf sK fun hnt => ?_
 repeat' (first | refine pg ?_ | refine aH ?_ | refine af ?_ | (refine ai ?_; intro hl) | (refine aj ?_; intro b) | (refine aQ ?_ ?_ <;> intro hc <;> try first | contradiction | omega) | refine pc ?_ | refine pt ?_)
 refine cA 5 10 (hasB x.op 100 = true ∨ x.dst = 0) (fun b hb0 => ?_) (fun J => ?_)
 rotate_left
 ·repeat' (first | (refine J _ _ .su rfl ?_) | refine pg ?_ | refine aH ?_ | refine af ?_ | (refine ai ?_; intro hl) | (refine aj ?_; intro b) | (refine aQ ?_ ?_ <;> intro hc <;> try first | contradiction | omega) | (refine aq (ao (cy (f := 100) dc (fun hc => ?_) fun hc => ?_))) | refine pc ?_ | refine pt ?_)
  all_goals (clear J; rw [← en (f := 100) (by simp)]; first | (simp [*]; done) | (simp_all; done) | (simp [*]; omega))
 cases b
 ·repeat' (first | refine pg ?_ | refine aH ?_ | refine af ?_ | (refine ai ?_; intro hl) | (refine aj ?_; intro b) | (refine aQ ?_ ?_ <;> intro hc <;> try first | contradiction | omega) | refine pc ?_ | refine pt ?_)
  exact E1 (kf fun q => by have q2 := hb0.2 q.1; cases q2)
 repeat' (first | refine pg ?_ | refine aH ?_ | refine af ?_ | (refine ai ?_; intro hl) | (refine aj ?_; intro b) | (refine aQ ?_ ?_ <;> intro hc <;> try first | contradiction | omega) | refine pc ?_ | refine pt ?_)
 refine cA 6 20 (hasB x.op 97 = true ∨ x.a = 0) (fun b hb1 => ?_) (fun J => ?_)
 rotate_left
 ·repeat' (first | (refine J _ _ .su rfl ?_) | refine pg ?_ | refine aH ?_ | refine af ?_ | (refine ai ?_; intro hl) | (refine aj ?_; intro b) | (refine aQ ?_ ?_ <;> intro hc <;> try first | contradiction | omega) | (refine aq (ao (cy (f := 97) dc (fun hc => ?_) fun hc => ?_))) | refine pc ?_ | refine pt ?_)
  all_goals (clear J; rw [← en (f := 97) (by simp)]; first | (simp [*]; done) | (simp_all; done) | (simp [*]; omega))
 cases b
 ·repeat' (first | refine pg ?_ | refine aH ?_ | refine af ?_ | (refine ai ?_; intro hl) | (refine aj ?_; intro b) | (refine aQ ?_ ?_ <;> intro hc <;> try first | contradiction | omega) | refine pc ?_ | refine pt ?_)
  exact E1 (kf fun q => by have q2 := hb1.2 q.2.1; cases q2)
 repeat' (first | refine pg ?_ | refine aH ?_ | refine af ?_ | (refine ai ?_; intro hl) | (refine aj ?_; intro b) | (refine aQ ?_ ?_ <;> intro hc <;> try first | contradiction | omega) | refine pc ?_ | refine pt ?_)
 refine cA 6 30 (hasB x.op 98 = true ∨ x.b = 0) (fun b hb2 => ?_) (fun J => ?_)
 rotate_left
 ·repeat' (first | (refine J _ _ .su rfl ?_) | refine pg ?_ | refine aH ?_ | refine af ?_ | (refine ai ?_; intro hl) | (refine aj ?_; intro b) | (refine aQ ?_ ?_ <;> intro hc <;> try first | contradiction | omega) | (refine aq (ao (cy (f := 98) dc (fun hc => ?_) fun hc => ?_))) | refine pc ?_ | refine pt ?_)
  all_goals (clear J; rw [← en (f := 98) (by simp)]; first | (simp [*]; done) | (simp_all; done) | (simp [*]; omega))
 cases b
 ·repeat' (first | refine pg ?_ | refine aH ?_ | refine af ?_ | (refine ai ?_; intro hl) | (refine aj ?_; intro b) | (refine aQ ?_ ?_ <;> intro hc <;> try first | contradiction | omega) | refine pc ?_ | refine pt ?_)
  exact E1 (kf fun q => by have q2 := hb2.2 q.2.2.1; cases q2)
 repeat' (first | refine pg ?_ | refine aH ?_ | refine af ?_ | (refine ai ?_; intro hl) | (refine aj ?_; intro b) | (refine aQ ?_ ?_ <;> intro hc <;> try first | contradiction | omega) | refine pc ?_ | refine pt ?_)
 refine cA 11 45 (hasB x.op 110 = true ∨ x.n = 0) (fun b hb3 => ?_) (fun J => ?_)
 rotate_left
 ·repeat' (first | (refine J _ _ .su rfl ?_) | refine pg ?_ | refine aH ?_ | refine af ?_ | (refine ai ?_; intro hl) | (refine aj ?_; intro b) | (refine aQ ?_ ?_ <;> intro hc <;> try first | contradiction | omega) | (refine aq (ao (cy (f := 110) dc (fun hc => ?_) fun hc => ?_))) | (refine aq (ao (cy (f := 111) dc (fun hc => ?_) fun hc => ?_))) | refine pc ?_ | refine pt ?_)
  all_goals (clear J; rw [← MX]; first | (simp [*]; done) | (simp_all; done) | (simp [*]; omega))
 cases b
 ·repeat' (first | refine pg ?_ | refine aH ?_ | refine af ?_ | (refine ai ?_; intro hl) | (refine aj ?_; intro b) | (refine aQ ?_ ?_ <;> intro hc <;> try first | contradiction | omega) | refine pc ?_ | refine pt ?_)
  exact E1 (kf fun q => by have q2 := hb3.2 q.2.2.2.1; cases q2)
 repeat' (first | refine pg ?_ | refine aH ?_ | refine af ?_ | (refine ai ?_; intro hl) | (refine aj ?_; intro b) | (refine aQ ?_ ?_ <;> intro hc <;> try first | contradiction | omega) | refine pc ?_ | refine pt ?_)
 refine cA 6 55 (hasB x.op 99 = true ∨ x.cls = []) (fun b hb4 => ?_) (fun J => ?_)
 rotate_left
 ·repeat' (first | (refine J _ _ .su rfl ?_) | refine pg ?_ | refine aH ?_ | refine af ?_ | (refine ai ?_; intro hl) | (refine aj ?_; intro b) | (refine aQ ?_ ?_ <;> intro hc <;> try first | contradiction | omega) | (refine aq (ao (cy (f := 99) dc (fun hc => ?_) fun hc => ?_))) | refine pc ?_ | refine pt ?_)
  all_goals (clear J; rw [← en (f := 99) (by simp)]; first | (simp [*]; done) | (simp_all; done) | (simp [*]; omega))
 cases b
 ·repeat' (first | refine pg ?_ | refine aH ?_ | refine af ?_ | (refine ai ?_; intro hl) | (refine aj ?_; intro b) | (refine aQ ?_ ?_ <;> intro hc <;> try first | contradiction | omega) | refine pc ?_ | refine pt ?_)
  exact E1 (kf fun q => by have q2 := hb4.2 q.2.2.2.2.1; cases q2)
 repeat' (first | refine pg ?_ | refine aH ?_ | refine af ?_ | (refine ai ?_; intro hl) | (refine aj ?_; intro b) | (refine aQ ?_ ?_ <;> intro hc <;> try first | contradiction | omega) | refine pc ?_ | refine pt ?_)
 refine cA 6 65 (hasB x.op 109 = true ∨ x.name = []) (fun b hb5 => ?_) (fun J => ?_)
 rotate_left
 ·repeat' (first | (refine J _ _ .su rfl ?_) | refine pg ?_ | refine aH ?_ | refine af ?_ | (refine ai ?_; intro hl) | (refine aj ?_; intro b) | (refine aQ ?_ ?_ <;> intro hc <;> try first | contradiction | omega) | (refine aq (ao (cy (f := 109) dc (fun hc => ?_) fun hc => ?_))) | refine pc ?_ | refine pt ?_)
  all_goals (clear J; rw [← en (f := 109) (by simp)]; first | (simp [*]; done) | (simp_all; done) | (simp [*]; omega))
 cases b
 ·repeat' (first | refine pg ?_ | refine aH ?_ | refine af ?_ | (refine ai ?_; intro hl) | (refine aj ?_; intro b) | (refine aQ ?_ ?_ <;> intro hc <;> try first | contradiction | omega) | refine pc ?_ | refine pt ?_)
  exact E1 (kf fun q => by have q2 := hb5.2 q.2.2.2.2.2.1; cases q2)
 repeat' (first | refine pg ?_ | refine aH ?_ | refine af ?_ | (refine ai ?_; intro hl) | (refine aj ?_; intro b) | (refine aQ ?_ ?_ <;> intro hc <;> try first | contradiction | omega) | refine pc ?_ | refine pt ?_)
 refine cA 7 76 (hasB x.op 108 = true ∨ x.args.length = 0) (fun b hb6 => ?_) (fun J => ?_)
 rotate_left
 ·repeat' (first | (refine J _ _ .su rfl ?_) | refine pg ?_ | refine aH ?_ | refine af ?_ | (refine ai ?_; intro hl) | (refine aj ?_; intro b) | (refine aQ ?_ ?_ <;> intro hc <;> try first | contradiction | omega) | (refine aq (ao (cy (f := 42) dc (fun hc => ?_) fun hc => ?_))) | refine pc ?_ | refine pt ?_)
  all_goals (clear J; rw [← G6]; first | (simp [*]; done) | (simp_all; done) | (simp [*]; omega))
 cases b
 ·repeat' (first | refine pg ?_ | refine aH ?_ | refine af ?_ | (refine ai ?_; intro hl) | (refine aj ?_; intro b) | (refine aQ ?_ ?_ <;> intro hc <;> try first | contradiction | omega) | refine pc ?_ | refine pt ?_)
  exact E1 (kf fun q => by have q2 := hb6.2 q.2.2.2.2.2.2.1; cases q2)
 repeat' (first | refine pg ?_ | refine aH ?_ | refine af ?_ | (refine ai ?_; intro hl) | (refine aj ?_; intro b) | (refine aQ ?_ ?_ <;> intro hc <;> try first | contradiction | omega) | refine pc ?_ | refine pt ?_)
 refine cA 6 86 (hasB x.op 103 = true ∨ x.goto = 0) (fun b hb7 => ?_) (fun J => ?_)
 rotate_left
 ·repeat' (first | (refine J _ _ .su rfl ?_) | refine pg ?_ | refine aH ?_ | refine af ?_ | (refine ai ?_; intro hl) | (refine aj ?_; intro b) | (refine aQ ?_ ?_ <;> intro hc <;> try first | contradiction | omega) | (refine aq (ao (cy (f := 103) dc (fun hc => ?_) fun hc => ?_))) | refine pc ?_ | refine pt ?_)
  all_goals (clear J; rw [← en (f := 103) (by simp)]; first | (simp [*]; done) | (simp_all; done) | (simp [*]; omega))
 cases b
 ·repeat' (first | refine pg ?_ | refine aH ?_ | refine af ?_ | (refine ai ?_; intro hl) | (refine aj ?_; intro b) | (refine aQ ?_ ?_ <;> intro hc <;> try first | contradiction | omega) | refine pc ?_ | refine pt ?_)
  exact E1 (kf fun q => by have q2 := hb7.2 q.2.2.2.2.2.2.2; cases q2)
 repeat' (first | refine pg ?_ | refine aH ?_ | refine af ?_ | (refine ai ?_; intro hl) | (refine aj ?_; intro b) | (refine aQ ?_ ?_ <;> intro hc <;> try first | contradiction | omega) | refine pc ?_ | refine pt ?_)
 exact E1 (kt ⟨hb0.1 rfl, hb1.1 rfl, hb2.1 rfl, hb3.1 rfl, hb4.1 rfl, hb5.1 rfl, hb6.1 rfl, hb7.1 rfl⟩)
theorem pD {f : dN} {i : Int} {K : PV → Prop} (kt : tP f i → K (.bool true)) (kf : ¬ tP f i → K (.bool false)) : PF Tryz.prog X0 Mx 161 [.agg (lA f), .int .i64 i] K := by
 refine Pf yu fun hnt => ?_
 repeat' (first | refine Qa ?_ | (refine Ba ?_ ?_ <;> try exact Za) | intro hc)
 all_goals first
  | exact E1 (kt ⟨am, am, am⟩)
  | exact E1 (kf fun q => by first | exact absurd q.1 am | exact absurd q.2.1 am | exact absurd q.2.2 am)
theorem kM {b : Bool} {K : PV → Prop} (k : K (.int .i64 (if b = true then 0 else 8))) : PF Tryz.prog X0 Mx 162 [.bool b] K := by
 refine Pf CD fun hnt => ?_
 cases b
 ·repeat' (first | refine Qa ?_ | intro hc)
  exact E1 k
 ·repeat' (first | refine Qa ?_ | intro hc)
  exact E1 k
def kN (cl : List aU) (f : dN) : List PV := bh cl ++ lA f
theorem gU {cl : List aU} {f : dN} {v : Int} {K : PV → Prop} (hv : 0 ≤ v ∧ v < f.vars.length) (k : K (.str (vt f v))) : PF Tryz.prog X0 Mx 165 [.agg (kN cl f), .int .i64 v] K := by
 refine Pf wg fun hnt => ?_
 repeat' (first | refine Qa ?_ | intro hc)
 exact E1 k
theorem km {cl : List aU} {f : dN} {v : Int} {K : PV → Prop} (hv : 0 ≤ v ∧ v < f.vars.length) (kt : vt f v = gZ → K (.bool true)) (kf : ¬ vt f v = gZ → K (.bool false)) : PF Tryz.prog X0 Mx 163 [.agg (kN cl f), .int .i64 v] K := by
 refine Pf qO fun hnt => ?_
 repeat' (first | refine Qa ?_ | (refine Ba ?_ ?_ <;> try exact Za) | refine aq (ao (gU hv ?_)) | intro hc)
 ·exact E1 (kt hc)
 ·exact E1 (kf hc)
theorem fA {cl : List aU} {f : dN} {s : List Nat} {K : PV → Prop} (hi : ¬ gZ ∈ bK cl) (kt : s ∈ bK cl → K (.bool true)) (kf : ¬ s ∈ bK cl → K (.bool false)) : PF Tryz.prog X0 Mx 167 [.agg (kN cl f), .str s] K := by
 refine Pf oc fun hnt => ?_
 repeat' (first | refine Qa ?_ | (refine Ba ?_ ?_ <;> try exact Za) | refine bG (us := bh cl) ?_ rfl rfl ⟨by show 1 ≤ 8; decide, rfl⟩ | refine aq (ao (ic ?_)) | intro hc)
 all_goals first
  | exact E1 (kt (aW.1 am))
  | exact E1 (kf (fun q => (by assumption : ¬ 0 ≤ bl _ _) (aW.2 q)))
  | exact E1 (kf (fun q => hi (by rw [← show s = gZ by assumption]; exact q)))
theorem iy {cl : List aU} {f : dN} {s t : List Nat} {K : PV → Prop} (ct : cl.length ≤ 64) (hi : ¬ gZ ∈ bK cl) (hn : ¬ pa ∈ bK cl) (kt : iD cl s t → K (.bool true)) (kf : ¬ iD cl s t → K (.bool false)) : PF Tryz.prog X0 Mx 164 [.agg (kN cl f), .str s, .str t] K := by
 refine Pf sM fun hnt => ?_
 repeat' (first | refine Qa ?_ | (refine Ba ?_ ?_ <;> try exact Za) | refine bG (us := bh cl) ?_ rfl rfl ⟨by show 1 ≤ 8; decide, rfl⟩ | (refine aq (ao (fA hi (fun hc => ?_) fun hc => ?_))) | (refine aq (ao (pC ct (fun hc => ?_) fun hc => ?_))) | intro hc)
 all_goals first
  | exact (hn (by rw [← show s = pa by assumption]; assumption)).elim
  | exact E1 (kt (by first | exact Or.inl am | exact Or.inr (Or.inl ⟨am, am⟩) | exact Or.inr (Or.inr ⟨am, am, am, am⟩)))
  | exact E1 (kf (by rintro (q | ⟨q1, q2⟩ | ⟨q1, q2, q3, q4⟩) <;> first | exact absurd q am | exact absurd q1 am | exact absurd q2 am | exact absurd q3 am | exact absurd q4 am | exact absurd am q1 | exact absurd am q2))
theorem sR {f : dN} {i : Nat} {K : PV → Prop} (hn : f.code.length ≤ 9223372036854775807) (hi : i < f.code.length) (hg : G8 f.code.length (el f.code i)) (kt : ¬ rK f i → K (.bool true)) (kf : rK f i → K (.bool false)) : PF Tryz.prog X0 Mx 104 [.agg (lA f), .int .i64 (i : Nat)] K := by
 refine Pf sL fun hnt => ?_
 have hu : eN (el f.code i).op 103 = hasB (el f.code i).op 103 := en (by simp)
 repeat' (first | refine Qa ?_ | (refine Ba ?_ ?_ <;> try exact Za) | (refine aq (ao (pD (fun hc => ?_) fun hc => ?_))) | (refine aq (ao (cy (f := 103) dc (fun hc => ?_) fun hc => ?_))) | intro hc)
 all_goals first
  | exact E1 (kf (by first | exact Or.inl ⟨fun q => (by unfold lR at q; omega), Or.inl om⟩ | exact Or.inl ⟨fun q => (by unfold lR at q; omega), Or.inr (by assumption : tP f (((i : Nat) : Int) + 1)).2.2⟩ | exact Or.inr (Or.inl ⟨by rw [← hu]; assumption, (by assumption : tP f (el f.code i).goto).2.2⟩) | exact Or.inr (Or.inr ⟨om, am⟩)))
  | exact E1 (kt (by rintro (⟨q1, q2⟩ | ⟨q1, q2⟩ | ⟨q1, q2⟩) <;> first | exact q1 (by unfold lR; omega) | exact q2.elim (fun w => by omega) (fun w => (by assumption : ¬ tP f (((i : Nat) : Int) + 1)) ⟨om, om, w⟩) | (rw [← hu] at q1; exact absurd q1 (ff am)) | exact (by assumption : ¬ tP f (el f.code i).goto) ⟨(hg q1).1, (hg q1).2, q2⟩ | exact absurd q2 am | omega))
theorem Ho {op : Int} : hasB op 108 = true ↔ op = 9 ∨ op = 10 := by
 constructor
 ·intro h
  by_cases q : 0 ≤ op ∧ op < 17
  ·obtain ⟨k, rfl⟩ := mH q
   exact (by decide : ∀ k : Fin 17, hasB ((k.1 : Nat) : Int) 108 = true → ((k.1 : Nat) : Int) = 9 ∨ ((k.1 : Nat) : Int) = 10) k h
  ·unfold hasB at h; rw [decide_eq_false q] at h; cases h
 ·rintro (rfl | rfl) <;> decide
def aP (n : Nat) (x : bJ) : Prop := hasB x.op 97 = true → (0 ≤ x.a ∧ x.a < n) ∨ (x.op = 13 ∧ x.a = -1)
def bP (n : Nat) (x : bJ) : Prop := hasB x.op 98 = true → 0 ≤ x.b ∧ x.b < n
theorem J3 {n : Nat} {x : bJ} (ha : aP n x) (hb : bP n x) (hl : ∀ i, i < x.args.length → 0 ≤ el x.args i ∧ el x.args i < n) : ∀ v ∈ iU x, 0 ≤ v ∧ v < n := by
 intro v hv
 unfold iU at hv
 rcases List.mem_append.1 hv with hv | hv
 ·rcases List.mem_append.1 hv with hv | hv
  ·by_cases q : hasB x.op 97 = true ∧ (x.op ≠ 13 ∨ x.a ≠ -1)
   ·rw [if_pos q, List.mem_singleton] at hv
    subst hv
    rcases ha q.1 with w | w
    ·exact w
    ·exact absurd w.1 (q.2.elim id fun z => absurd w.2 z)
   ·rw [if_neg q] at hv; cases hv
  ·by_cases q : hasB x.op 98 = true
   ·rw [if_pos q, List.mem_singleton] at hv
    subst hv; exact hb q
   ·rw [if_neg q] at hv; cases hv
 ·by_cases q : hasB x.op 108 = true
  ·rw [if_pos q] at hv
   obtain ⟨i, hi, e⟩ := dn hv
   subst e; exact hl i hi
  ·rw [if_neg q] at hv; cases hv
theorem Pz {f : dN} {x : bJ} (hr : jv f x) : aP f.vars.length x := fun h => by
 by_cases q : x.op = 13 ∧ x.a = -1
 ·exact Or.inr q
 ·refine Or.inl (nc hr h ?_)
  by_cases w : x.op = 13
  ·exact Or.inr fun z => q ⟨w, z⟩
  ·exact Or.inl w
theorem gd {f : dN} {v : Int} {K : PV → Prop} (kt : 0 ≤ v ∧ v < f.vars.length → K (.bool true)) (kf : ¬ (0 ≤ v ∧ v < f.vars.length) → K (.bool false)) : PF Tryz.prog X0 Mx 160 [.int .i64 v, .fp (lA f) 0] K := by
 refine Pf ue fun hnt => ?_
 repeat' (first | refine Qa ?_ | (refine Ba ?_ ?_ <;> try exact Za) | intro hc)
 ·exact E1 (kt ⟨am, am⟩)
 ·exact E1 (kf om)
 ·exact E1 (kf om)
theorem yz {f : dN} {x : bJ} {K : PV → Prop} (hun : E0 x) (kt : jv f x → K (.bool true)) (kf : ¬ jv f x → K (.bool false)) : PF Tryz.prog X0 Mx 103 [.agg (lA f), .agg (fw x)] K := by
 refine Pf yq fun hnt => ?_
 have u1 : eN x.op 100 = hasB x.op 100 := en (by simp)
 have u2 : eN x.op 97 = hasB x.op 97 := en (by simp)
 have u3 : eN x.op 98 = hasB x.op 98 := en (by simp)
 have u4 : eN x.op 103 = hasB x.op 103 := en (by simp)
 have u5 : eN x.op 42 = hasB x.op 108 := G6
 have u6 := Ho (op := x.op)
 repeat' (first | refine pg ?_ | refine aH ?_ | refine af ?_ | refine aa ?_ | (refine ai ?_; intro hl) | (refine aj ?_; intro b) | (refine aQ ?_ ?_ <;> intro hc <;> try first | contradiction | omega) | refine aC ?_ | refine aN ?_ | refine ag ?_ | refine pc ?_ | refine pt ?_ | refine pb ?_)
 refine cA 18 29 (¬ x8 f.vars.length x) (fun b hb1 => ?_) (fun J => ?_)
 rotate_left
 ·repeat' (first | (refine J _ _ .su rfl ?_) | refine pg ?_ | refine aH ?_ | refine af ?_ | refine aa ?_ | (refine ai ?_; intro hl) | (refine aj ?_; intro b) | (refine aQ ?_ ?_ <;> intro hc <;> try first | contradiction | omega) | refine aC ?_ | refine aN ?_ | refine ag ?_ | (refine aq (ao (cy (f := 100) dc (fun hc => ?_) fun hc => ?_))) | (refine aq (ao (cy (f := 42) dc (fun hc => ?_) fun hc => ?_))) | (refine gS (gd (fun hc => ⟨rfl, ?_⟩) fun hc => ⟨rfl, ?_⟩) rfl rfl rfl (.cons _ _ _ _ (.refl _) (.cons _ _ _ _ (.ptr _ _ _ _ _ rfl (.refl _)) .nil))) | refine pc ?_ | refine pt ?_ | refine pb ?_)
  all_goals clear J
  all_goals try have w := u6.1 (by rw [← u5]; assumption)
  all_goals try have w : ¬ (x.op = 9 ∨ x.op = 10) := fun z => by have z2 := u6.2 z; rw [← u5] at z2; exact ff am z2
  all_goals first | (unfold x8; rw [← u1]) | (unfold aP; rw [← u2]) | (unfold bP; rw [← u3])
  all_goals first
   | (simp only [show eN x.op 100 = true by assumption]; simp; omega)
   | (simp only [show eN x.op 100 = false by assumption]; simp; done)
 cases b
 rotate_left
 ·repeat' (first | refine pg ?_ | refine aH ?_ | refine af ?_ | refine aa ?_ | (refine ai ?_; intro hl) | (refine aj ?_; intro b) | (refine aQ ?_ ?_ <;> intro hc <;> try first | contradiction | omega) | refine aC ?_ | refine aN ?_ | refine ag ?_ | refine pc ?_ | refine pt ?_ | refine pb ?_)
  exact E1 (kf fun q => hb1.1 rfl q.1)
 repeat' (first | refine pg ?_ | refine aH ?_ | refine af ?_ | refine aa ?_ | (refine ai ?_; intro hl) | (refine aj ?_; intro b) | (refine aQ ?_ ?_ <;> intro hc <;> try first | contradiction | omega) | refine aC ?_ | refine aN ?_ | refine ag ?_ | refine pc ?_ | refine pt ?_ | refine pb ?_)
 refine cA 17 49 (¬ aP f.vars.length x) (fun b hb2 => ?_) (fun J => ?_)
 rotate_left
 ·repeat' (first | (refine J _ _ .su rfl ?_) | refine pg ?_ | refine aH ?_ | refine af ?_ | refine aa ?_ | (refine ai ?_; intro hl) | (refine aj ?_; intro b) | (refine aQ ?_ ?_ <;> intro hc <;> try first | contradiction | omega) | refine aC ?_ | refine aN ?_ | refine ag ?_ | (refine aq (ao (cy (f := 97) dc (fun hc => ?_) fun hc => ?_))) | (refine gS (gd (fun hc => ⟨rfl, ?_⟩) fun hc => ⟨rfl, ?_⟩) rfl rfl rfl (.cons _ _ _ _ (.refl _) (.cons _ _ _ _ (.ptr _ _ _ _ _ rfl (.refl _)) .nil))) | refine pc ?_ | refine pt ?_ | refine pb ?_)
  all_goals clear J
  all_goals try have w := u6.1 (by rw [← u5]; assumption)
  all_goals try have w : ¬ (x.op = 9 ∨ x.op = 10) := fun z => by have z2 := u6.2 z; rw [← u5] at z2; exact ff am z2
  all_goals first | (unfold x8; rw [← u1]) | (unfold aP; rw [← u2]) | (unfold bP; rw [← u3])
  all_goals first
   | (simp only [show eN x.op 97 = true by assumption]; simp; omega)
   | (simp only [show eN x.op 97 = false by assumption]; simp; done)
 cases b
 rotate_left
 ·repeat' (first | refine pg ?_ | refine aH ?_ | refine af ?_ | refine aa ?_ | (refine ai ?_; intro hl) | (refine aj ?_; intro b) | (refine aQ ?_ ?_ <;> intro hc <;> try first | contradiction | omega) | refine aC ?_ | refine aN ?_ | refine ag ?_ | refine pc ?_ | refine pt ?_ | refine pb ?_)
  exact E1 (kf fun q => hb2.1 rfl (Pz q))
 repeat' (first | refine pg ?_ | refine aH ?_ | refine af ?_ | refine aa ?_ | (refine ai ?_; intro hl) | (refine aj ?_; intro b) | (refine aQ ?_ ?_ <;> intro hc <;> try first | contradiction | omega) | refine aC ?_ | refine aN ?_ | refine ag ?_ | refine pc ?_ | refine pt ?_ | refine pb ?_)
 refine cA 7 59 (¬ bP f.vars.length x) (fun b hb3 => ?_) (fun J => ?_)
 rotate_left
 ·repeat' (first | (refine J _ _ .su rfl ?_) | refine pg ?_ | refine aH ?_ | refine af ?_ | refine aa ?_ | (refine ai ?_; intro hl) | (refine aj ?_; intro b) | (refine aQ ?_ ?_ <;> intro hc <;> try first | contradiction | omega) | refine aC ?_ | refine aN ?_ | refine ag ?_ | (refine aq (ao (cy (f := 98) dc (fun hc => ?_) fun hc => ?_))) | (refine gS (gd (fun hc => ⟨rfl, ?_⟩) fun hc => ⟨rfl, ?_⟩) rfl rfl rfl (.cons _ _ _ _ (.refl _) (.cons _ _ _ _ (.ptr _ _ _ _ _ rfl (.refl _)) .nil))) | refine pc ?_ | refine pt ?_ | refine pb ?_)
  all_goals clear J
  all_goals try have w := u6.1 (by rw [← u5]; assumption)
  all_goals try have w : ¬ (x.op = 9 ∨ x.op = 10) := fun z => by have z2 := u6.2 z; rw [← u5] at z2; exact ff am z2
  all_goals first | (unfold x8; rw [← u1]) | (unfold aP; rw [← u2]) | (unfold bP; rw [← u3])
  all_goals first
   | (simp only [show eN x.op 98 = true by assumption]; simp; omega)
   | (simp only [show eN x.op 98 = false by assumption]; simp; done)
 cases b
 rotate_left
 ·repeat' (first | refine pg ?_ | refine aH ?_ | refine af ?_ | refine aa ?_ | (refine ai ?_; intro hl) | (refine aj ?_; intro b) | (refine aQ ?_ ?_ <;> intro hc <;> try first | contradiction | omega) | refine aC ?_ | refine aN ?_ | refine ag ?_ | refine pc ?_ | refine pt ?_ | refine pb ?_)
  exact E1 (kf fun q => hb3.1 rfl (fun h => B4 q h))
 repeat' (first | refine pg ?_ | refine aH ?_ | refine af ?_ | refine aa ?_ | (refine ai ?_; intro hl) | (refine aj ?_; intro b) | (refine aQ ?_ ?_ <;> intro hc <;> try first | contradiction | omega) | refine aC ?_ | refine aN ?_ | refine ag ?_ | refine pc ?_ | refine pt ?_ | refine pb ?_)
 have hd : x8 f.vars.length x := Classical.byContradiction fun q => by cases hb1.2 q
 have ha : aP f.vars.length x := Classical.byContradiction fun q => by cases hb2.2 q
 have hbb : bP f.vars.length x := Classical.byContradiction fun q => by cases hb3.2 q
 refine aJ (fun j : Nat => [(2, .ptr 2 _ 0), (3, .ptr 3 _ 0), (5, .fn 160 [.ptr 2 _ 0]), (61, pL 1 pI x.args), (62, .int .i64 (x.args.length : Nat)), (63, .int .i64 j)]) (fun _ => [(2, some _, .cells (lA f)), (3, some _, .cells (fw x))]) (fun j => j ≤ x.args.length ∧ ∀ i, i < j → 0 ≤ el x.args i ∧ el x.args i < f.vars.length) (fun j => x.args.length - j) 0 ⟨Nat.zero_le _, fh⟩ .su .su ?_
 rintro j ⟨hj, hb⟩
 by_cases hlt : j < x.args.length
 ·repeat' (first | refine pg ?_ | refine aH ?_ | refine af ?_ | refine aa ?_ | (refine ai ?_; intro hl) | (refine aj ?_; intro b) | (refine aQ ?_ ?_ <;> intro hc <;> try first | contradiction | omega) | refine aC ?_ | refine aN ?_ | refine ag ?_ | (refine gS (gd (fun hc => ⟨rfl, ?_⟩) fun hc => ⟨rfl, ?_⟩) rfl rfl rfl (.cons _ _ _ _ (.refl _) (.cons _ _ _ _ (.ptr _ _ _ _ _ rfl (.refl _)) .nil))) | refine pc ?_ | refine pt ?_ | refine pb ?_)
  ·refine ⟨j + 1, by dsimp only; omega, ⟨om, fun i hi => ?_⟩, .su, .su⟩
   by_cases q : i = j
   ·subst q; assumption
   ·exact hb i om
  ·exact E1 (kf fun q => by have h8 : hasB x.op 108 = true := hun.2.2.2.2.2.2.1.elim id (fun z => by omega); exact (by assumption : ¬ (0 ≤ el x.args j ∧ el x.args j < f.vars.length)) (GU q h8 hlt))
 ·have hU := J3 ha hbb fun i hi => hb i om
  repeat' (first | refine pg ?_ | refine aH ?_ | refine af ?_ | refine aa ?_ | (refine ai ?_; intro hl) | (refine aj ?_; intro b) | (refine aQ ?_ ?_ <;> intro hc <;> try first | contradiction | omega) | refine aC ?_ | refine aN ?_ | refine ag ?_ | (refine aq (ao (cy (f := 103) dc (fun hc => ?_) fun hc => ?_))) | (refine aq (ao (pD (fun hc => ?_) fun hc => ?_))) | refine pc ?_ | refine pt ?_ | refine pb ?_)
  all_goals first
   | exact E1 (kt ⟨hd, hU, fun hq => by first | (rw [← u4] at hq; exact absurd hq (ff am)) | (constructor <;> omega), by first | exact Or.inl am | exact Or.inr am⟩)
   | exact E1 (kf fun q => by have q3 := q.2.2.1 (by rw [← u4]; assumption); omega)
   | exact E1 (kf fun q => q.2.2.2.elim am am)
theorem qU {cl : List aU} {f : dN} {x : bJ} {K : PV → Prop} (ct : cl.length ≤ 64) (hi : ¬ gZ ∈ bK cl) (hn : ¬ pa ∈ bK cl) (hr : jv f x) (hop : x.op = 7 ∨ x.op = 8) (k : K (.int .i64 (xO cl f x))) : PF Tryz.prog X0 Mx 166 [.agg (kN cl f), .agg (fw x)] K := by
 refine Pf qP fun hnt => ?_
 have qa := nc hr (by rcases hop with q | q <;> rw [q] <;> decide) om
 have qd : x.op = 7 → 0 ≤ x.dst ∧ x.dst < f.vars.length := fun q => xP hr (by rw [q]; decide) om om
 have qb : x.op = 8 → 0 ≤ x.b ∧ x.b < f.vars.length := fun q => B4 hr (by rw [q]; decide)
 repeat' (first | refine Qb ?_ | (refine aj ?_; intro b) | (refine Ba ?_ ?_ <;> intro hc <;> try exact Zb) | refine aG ?_ | refine pd ?_ | (refine dW (aM (gU ?_ ?_))) | (refine dW (aM (fA hi (fun hc => ?_) fun hc => ?_))) | (refine dW (aM (yy ct (fun c d hF => ?_) fun hF => ?_))) | (refine dW (aM (iy ct hi hn (fun hc => ?_) fun hc => ?_))) | refine dW (aM (kM ?_)) | refine bG (us := bh cl) ?_ rfl rfl ⟨by show 1 ≤ 8; decide, rfl⟩ | exact qa | exact qd am | exact qb om)
 all_goals unfold xO at k
 all_goals first
  | rw [if_pos (by assumption)] at k
  | rw [if_neg (not_not.2 (by assumption)), hF] at k
 all_goals try dsimp only at k
 all_goals try first
  | rw [if_pos (Or.inl ⟨by assumption, by assumption⟩)] at k
  | rw [if_pos (Or.inr ⟨by omega, by assumption⟩)] at k
  | rw [if_neg (by rintro (⟨q1, q2⟩ | ⟨q1, q2⟩) <;> first | exact absurd q1 (by assumption) | exact q2 (by assumption) | omega)] at k
 all_goals exact E1 k
theorem sS {cl : List aU} {f : dN} {x : bJ} {s : cz} {K : PV → Prop} (ct : cl.length ≤ 64) (hi : ¬ gZ ∈ bK cl) (hn : ¬ pa ∈ bK cl) (hr : jv f x) (hop : x.op = 9 ∨ x.op = 10) (k : K (.int .i64 (tG cl f x s))) : PF Tryz.prog X0 Mx 169 [.agg (kN cl f), .agg (fw x), .agg (cL s)] K := by
 refine Pf sN fun hnt => ?_
 have ql : ∀ i, i < x.args.length → 0 ≤ el x.args i ∧ el x.args i < f.vars.length := fun i hi => GU hr (by rcases hop with q | q <;> rw [q] <;> decide) hi
 have qd := hr.1 (by rcases hop with q | q <;> rw [q] <;> decide)
 repeat' (first | refine Qb ?_ | (refine ai ?_; intro hl) | (refine aj ?_; intro b) | (refine Ba ?_ ?_ <;> intro hc <;> try exact Zb) | refine aG ?_ | refine pd ?_ | refine pb ?_)
 all_goals unfold tG at k
 case refine_2 => rw [if_pos (by omega)] at k; exact E1 k
 rw [if_neg (by omega)] at k
 refine aJ (fun j : Nat => [(3, .ptr 3 _ 0), (4, .ptr 4 _ 0), (5, .ptr 5 _ 0), (17, pL 1 pI x.args), (18, .int .i64 (x.args.length : Nat)), (19, .int .i64 j)]) (fun _ => [(3, some _, .cells (kN cl f)), (4, some _, .cells (fw x)), (5, some _, .cells (cL s))]) (fun j => j ≤ x.args.length ∧ ∀ i, i < j → iD cl (vt f (el x.args i)) (el s.params i)) (fun j => x.args.length - j) 0 ⟨Nat.zero_le _, fh⟩ .su .su ?_
 rintro j ⟨hj, hb⟩
 have qj := ql j
 repeat' (first | refine Qb ?_ | (refine ai ?_; intro hl) | (refine aj ?_; intro b) | (refine Ba ?_ ?_ <;> intro hc <;> try exact Zb) | refine aG ?_ | refine pd ?_ | (refine dW (aM (gU ?_ ?_))) | (refine dW (aM (iy ct hi hn (fun hc => ?_) fun hc => ?_))) | refine dW (aM (kM ?_)) | (exact qj om) | omega | refine pb ?_)
 all_goals first
  | (refine ⟨j + 1, by dsimp only; omega, ⟨om, fun i hi => ?_⟩, .su, .su⟩; by_cases q : i = j; (subst q; assumption); (exact hb i om))
  | (rw [if_pos ⟨j, by omega, by assumption⟩] at k; exact E1 k)
  | rw [if_neg (fun ⟨i, hi, q⟩ => q (hb i (by omega)))] at k
 all_goals first
  | (rw [if_pos ⟨by assumption, Or.inl (by assumption)⟩] at k; exact E1 k)
  | (rw [if_pos ⟨by assumption, Or.inr (by assumption)⟩] at k; exact E1 k)
  | (rw [if_neg (fun q => q.1 (by assumption))] at k; exact E1 k)
  | (rw [if_neg (fun q => q.2.elim (by assumption) fun w => w (by assumption))] at k; exact E1 k)
theorem um {u : aK} {K : PV → Prop} (k : K (.int .i64 (jC u))) : PF Tryz.prog X0 Mx 47 [.agg (bQ u)] K := by
 refine Pf tY fun hnt => ?_
 repeat' (first | refine Qc ?_ | (refine Ba ?_ ?_ <;> try exact Za) | refine af ?_ | refine ai ?_ | refine aj ?_ | refine ae ?_ | (refine aq (ao (yx (fun i => ?_)))) | refine bG (us := bh u.cl) ?_ rfl rfl ⟨by show 1 ≤ 3; decide, rfl⟩ | refine pb ?_ | intro hc)
 case refine_1.refine_1 => unfold jC at k; replace k := Ik k; exact E1 k
 case refine_2 => unfold jC at k; replace k := Ik k; exact E1 k
 have hk := fW (by assumption : fV u.cl = 0)
 have hml := tl (cl := u.cl) fun i hi => (iu (hk.2 i hi)).2.2.2.1
 refine aJ (fun j : Nat => [(1, .ptr 1 _ 0), (5, .int .i64 ((allM (u.cl.take j)).length : Nat)), (24, pL 4 ia u.cl), (25, .int .i64 (u.cl.length : Nat)), (26, .int .i64 j)]) (fun _ => [(1, some _, .cells (bQ u))]) (fun j => j ≤ u.cl.length) (fun j => u.cl.length - j) 0 (Nat.zero_le _) .su .su ?_
 intro j hj
 have hmj := hml j hj
 by_cases hlt : j < u.cl.length
 ·have hs := kg hlt
  have hml1 := (iu (hk.2 j hlt)).2.2.2.1
  repeat' (first | refine Qc ?_ | (refine Ba ?_ ?_ <;> try exact Za) | refine af ?_ | refine ai ?_ | refine aj ?_ | refine ae ?_ | refine ay ?_ | refine pb ?_ | intro hc)
  rw [show (((allM (u.cl.take j)).length : Nat) : Int) + ((el u.cl j).methods.length : Nat) = ((allM (u.cl.take (j + 1))).length : Nat) by omega]
  exact ⟨j + 1, by dsimp only; omega, om, .su, .su⟩
 ·have hjl : j = u.cl.length := by omega
  have ht : (allM (u.cl.take j)).length = (allM u.cl).length := by rw [hjl, List.take_length]
  rw [ht] at hmj ⊢
  by_cases hef : (allM u.cl).length = u.fns.length
  all_goals repeat' (first | refine Qc ?_ | (refine Ba ?_ ?_ <;> try exact Za) | refine af ?_ | refine ai ?_ | refine aj ?_ | refine ae ?_ | refine ay ?_ | refine pb ?_ | intro hc)
  all_goals unfold jC at k
  all_goals replace k := Ik k
  all_goals first
   | exact E1 k
   | (rw [if_pos ⟨by assumption, by assumption, by assumption, by assumption, by assumption⟩] at k; exact E1 k)
   | (rw [if_neg (fun q => by first | exact absurd q.1 (by assumption) | exact absurd q.2.1 (by assumption) | exact absurd (q.2.2.1.symm.trans (by assumption)) (by decide) | exact absurd q.2.2.2.1 (by assumption) | exact absurd q.2.2.2.2 (by assumption))] at k; exact E1 k)
theorem yA {f : dN} {c : List Nat} {s : cz} {K : PV → Prop} (h6 : s.params.length ≤ 6) (kt : nJ f c s → K (.bool true)) (kf : ¬ nJ f c s → K (.bool false)) : PF Tryz.prog X0 Mx 98 [.str c, .agg (cL s), .agg (lA f)] K := by
 refine Pf yo fun hnt => ?_
 have hp : pn s = (s.params.length : Int) + (if s.static = true then 0 else 1) := rfl
 cases hs : s.static
 all_goals rw [hs] at hp
 all_goals simp at hp
 all_goals repeat' (first | refine Qc ?_ | (refine ar ?_ ?_ <;> intro hc <;> try first | contradiction | (exfalso; rw [hs] at hc; cases hc; done)) | refine af ?_ | refine aa ?_ | refine ai ?_ | refine aj ?_ | (refine Ba ?_ ?_ <;> try exact Za) | (refine bw ?_; intro b) | (refine ti (f := pS) c ?_; intro od1) | (refine x7 ?_ rfl rfl rfl (fun _ => rfl) (by show (1 + _) * _ ≤ _; omega); intro od2) | (refine mI (l := []) (m := s.params) (f := pS) ?_ rfl rfl (.aO _) (.tr _ _) (fun i _ => rfl) (fun _ => rfl) (by show (0 + _) * _ ≤ _; omega); intro od2) | refine pb ?_ | intro hc)
 all_goals have hl1 : ([c] ++ s.params).length = s.params.length + 1 := by simp
 all_goals have hl0 : (([] : List (List Nat)) ++ s.params).length = s.params.length := rfl
 all_goals try (exact E1 (kf fun ⟨q1, q2, q3, q4, q5, q6, q7, q8⟩ => by first | exact absurd q1 am | exact absurd q2 am | (rw [hs, (by assumption : f.static = true)] at q3; cases q3; done) | (rw [hs, (by assumption : f.static = false)] at q3; cases q3; done) | exact absurd q4 am | (rw [hp] at q5; omega) | (rw [hp] at q6; omega)))
 all_goals have hff : f.static = s.static := by rw [hs]; assumption
 ·refine aJ (fun j : Nat => [(4, .ptr 4 _ 0), (5, .ptr 5 _ 0), (59, oL 41 od2 1 ([c] ++ s.params)), (60, .int .i64 (([c] ++ s.params).length : Nat)), (61, .int .i64 j)]) (fun _ => [(4, some _, .cells (cL s)), (5, some _, .cells (lA f)), (41, od2, aL 1 pS ([c] ++ s.params))]) (fun j => j ≤ ([c] ++ s.params).length ∧ ∀ a, a < j → (el f.vars a).ly = el ([c] ++ s.params) a) (fun j => ([c] ++ s.params).length - j) 0 ⟨Nat.zero_le _, fh⟩ .su .su ?_
  rintro j ⟨hj, hb⟩
  repeat' (first | refine Qc ?_ | (refine ar ?_ ?_ <;> intro hc <;> try first | contradiction | (exfalso; rw [hs] at hc; cases hc; done)) | refine af ?_ | refine aa ?_ | refine ai ?_ | refine aj ?_ | (refine Ba ?_ ?_ <;> try exact Za) | (refine ef ?_; intro id hq; subst hq) | refine tM ?_ | refine pb ?_ | intro hc)
  ·refine ⟨j + 1, by dsimp only; omega, ⟨om, fun a ha => ?_⟩, .su, .su⟩
   by_cases q : a = j
   ·subst q; assumption
   ·exact hb a om
  ·exact E1 (kf fun q => by have q7 := (q.2.2.2.2.2.2.1 hs).2; have q8 := q.2.2.2.2.2.2.2; rw [hp] at q8; cases j with | zero => exact (by assumption : ¬ (el f.vars 0).ly = el ([c] ++ s.params) 0) q7 | succ j => (have q9 := q8 j om; rw [show ((s.params.length : Int) + 1 - s.params.length + (j : Nat)).toNat = j + 1 by omega] at q9; exact (by assumption : ¬ (el f.vars (j + 1)).ly = el ([c] ++ s.params) (j + 1)) q9))
  ·exact E1 (kt ⟨am, am, hff, am, by rw [hp]; omega, by rw [hp]; omega, fun _ => ⟨am, hb 0 om⟩, fun i hi => by rw [hp, show ((s.params.length : Int) + 1 - s.params.length + (i : Nat)).toNat = i + 1 by omega]; exact hb (i + 1) om⟩)
  ·exact E1 (kf fun q => absurd (q.2.2.2.2.2.2.1 hs).1 am)
 ·refine aJ (fun j : Nat => [(4, .ptr 4 _ 0), (5, .ptr 5 _ 0), (59, oL 45 od2 1 (([] : List (List Nat)) ++ s.params)), (60, .int .i64 ((([] : List (List Nat)) ++ s.params).length : Nat)), (61, .int .i64 j)]) (fun _ => [(4, some _, .cells (cL s)), (5, some _, .cells (lA f)), (45, od2, aL 1 pS (([] : List (List Nat)) ++ s.params))]) (fun j => j ≤ (([] : List (List Nat)) ++ s.params).length ∧ ∀ a, a < j → (el f.vars a).ly = el (([] : List (List Nat)) ++ s.params) a) (fun j => (([] : List (List Nat)) ++ s.params).length - j) 0 ⟨Nat.zero_le _, fh⟩ .su .su ?_
  rintro j ⟨hj, hb⟩
  repeat' (first | refine Qc ?_ | (refine ar ?_ ?_ <;> intro hc <;> try first | contradiction | (exfalso; rw [hs] at hc; cases hc; done)) | refine af ?_ | refine aa ?_ | refine ai ?_ | refine aj ?_ | (refine Ba ?_ ?_ <;> try exact Za) | (refine ef ?_; intro id hq; subst hq) | refine tM ?_ | refine pb ?_ | intro hc)
  ·refine ⟨j + 1, by dsimp only; omega, ⟨om, fun a ha => ?_⟩, .su, .su⟩
   by_cases q : a = j
   ·subst q; assumption
   ·exact hb a om
  ·exact E1 (kf fun q => by have q8 := q.2.2.2.2.2.2.2 j om; rw [hp, show ((s.params.length : Int) - s.params.length + (j : Nat)).toNat = j by omega] at q8; exact (by assumption : ¬ (el f.vars j).ly = el ([] ++ s.params) j) q8)
  ·exact E1 (kt ⟨am, am, hff, am, by rw [hp]; omega, by rw [hp]; omega, fun q => (by rw [hs] at q; cases q), fun i hi => by rw [hp, show ((s.params.length : Int) - s.params.length + (i : Nat)).toNat = i by omega]; exact hb i om⟩)
end Go.Proofs.YtgaihilgffficaaGreatDoor.Ev
