/- From a run of the law's code to its contract. -/
import Derived.Test.YtlocnfaeiacphaaGreatDoorCpRa
import Derived.Test.YtlocnfaeiacphaaGreatDoorAwC
set_option linter.unusedVariables false
set_option linter.unusedSimpArgs false
namespace Go.Proofs.YtlocnfaeiacphaaGreatDoor.Ev
open Go Go.RowKit
def blkOf (rows : List (List AV)) : AB := if rows = [] then .dead else .cells rows.flatten
def h7 (a b c : AB) : H := ⟨Tr.set depth (Tr.set depth (Tr.set depth Tr.nil 4 a) 5 b) 6 c, 7⟩
theorem h7_get (a b c : AB) (id : Nat) : Tr.get (h7 a b c).t id = if id = 6 then some c else if id = 5 then some b else if id = 4 then some a else none := by
  show Tr.get (Tr.set depth (Tr.set depth (Tr.set depth Tr.nil 4 a) 5 b) 6 c) id = _
  rw [Tr.get_set depth _ _ _ _ (by omega), Tr.get_set depth _ _ _ _ (by omega), Tr.get_set depth _ _ _ _ (by omega), Tr.get_nil]
  by_cases h6 : id = 6
  · subst h6; simp
  · rw [if_neg (Ne.symm h6), if_neg h6]
    by_cases h5 : id = 5
    · subst h5; simp
    · rw [if_neg (Ne.symm h5), if_neg h5]
      by_cases h4 : id = 4
      · subst h4; simp
      · rw [if_neg (Ne.symm h4), if_neg h4]
theorem slAV_one {w : World} {v : Value} {esz id : Nat} {rows : List (List AV)} (h : SlIn w v esz rows) : one (slAV id esz rows v) = true := by
  unfold slAV
  by_cases hq : rows = []
  · rw [if_pos hq]
    rcases h with ⟨_, oa, cp, rfl⟩ | ⟨hp, _⟩
    · rfl
    · rw [hq] at hp; simp at hp
  · rw [if_neg hq]; rfl
theorem Mx_ok : MemoOk Tryz.prog Tryz.prog.globals.size Mx := MK_ok (G := []) rfl (fun p hp => by cases hp) ⟨_, Tryz.func4, by kernel_rfl, by kernel_rfl⟩ (fun w _ => awake_any w)
theorem noExt0 : ExtOk Tryz.prog X0 := noExt
/-- what the walk of the law says -/
def LawRuns : Prop := ∀ (h : H) (nsv esv obv endv : AV) (ns : List Nd) (es : List Ed) (os : List Ob) (mn : Int), Cx (top 7) h → h.n = 7 → Arr h nsv 3 (ns.map Nd.row) 4 → Arr h esv 4 (es.map Ed.row) 5 → Arr h obv 5 (os.map Ob.row) 6 → (∀ x : Int, 0 ≤ x → x < os.length → one (ob os x).v = true) → one nsv = true → one esv = true → one obv = true →
    ∃ v h', Gives Tryz.prog X0 Mx (top 7) (.fnB 3) [.agg [nsv, esv, .int .i64 mn], .agg [endv, obv]] h v h' ∧ v = .bool true
theorem law_of (hlaw : LawRuns) {w : World} {v1 v2 v3 : Value} {ns : List Nd} {es : List Ed} {os : List Ob} {mn en : Int} (s1 : SlIn w v1 3 (ns.map Nd.row)) (s2 : SlIn w v2 4 (es.map Ed.row)) (s3 : SlIn w v3 5 (os.map Ob.row)) (hov : ∀ o ∈ os, one o.v = true) :
    Calls Tryz.prog 3 #[.agg #[v1, v2, .int .i64 mn], .agg #[.int .i64 en, v3]] w fun e w' => e = .returned (.bool true) ∧ Below w.heap.size w w' := by
  let h0 : H := h7 (blkOf (ns.map Nd.row)) (blkOf (es.map Ed.row)) (blkOf (os.map Ob.row))
  have hcx : Cx (top 7) h0 := ⟨Nat.le_refl _, fun id _ h2 => by
    show seen [(0, big)] id = true
    exact seen_here (Nat.zero_le _) h2⟩
  have hget : ∀ (rows : List (List AV)) (id : Nat), Tr.get h0.t id = some (blkOf rows) → rows ≠ [] → h0.get id = some (.cells rows.flatten) := fun rows id q hne => by
    have : blkOf rows = .cells rows.flatten := by unfold blkOf; rw [if_neg hne]
    rw [this] at q; exact q
  have g4 : Tr.get h0.t 4 = some (blkOf (ns.map Nd.row)) := h7_get _ _ _ 4
  have g5 : Tr.get h0.t 5 = some (blkOf (es.map Ed.row)) := h7_get _ _ _ 5
  have g6 : Tr.get h0.t 6 = some (blkOf (os.map Ob.row)) := h7_get _ _ _ 6
  have a1 := s1.arr (h0 := h0) (id := 4) (by show 4 < 7; omega) (hget _ 4 g4)
  have a2 := s2.arr (h0 := h0) (id := 5) (by show 5 < 7; omega) (hget _ 5 g5)
  have a3 := s3.arr (h0 := h0) (id := 6) (by show 6 < 7; omega) (hget _ 6 g6)
  obtain ⟨v, h', hg, rfl⟩ := hlaw h0 _ _ _ (.int .i64 en) ns es os mn hcx rfl a1 a2 a3 (fun x q1 q2 => by
    have hx : x.toNat < os.length := by omega
    have : ob os x = os[x.toNat] := by simp [ob, hx]
    rw [this]; exact hov _ (List.getElem_mem hx)) (slAV_one s1) (slAV_one s2) (slAV_one s3)
  let β : Bet := fun id => if id < 4 then some ⟨id, 0, 0⟩ else if id = 4 then some (slLoc v1 3) else if id = 5 then some (slLoc v2 4) else if id = 6 then some (slLoc v3 5) else none
  have b4 : β 4 = some (slLoc v1 3) := by simp [β]
  have b5 : β 5 = some (slLoc v2 4) := by simp [β]
  have b6 : β 6 = some (slLoc v3 5) := by simp [β]
  have dead : ∀ (rows : List (List AV)) (b : AB), blkOf rows = b → b ≠ .dead → rows ≠ [] ∧ b = .cells rows.flatten := fun rows b q hd => by
    unfold blkOf at q
    by_cases hr : rows = []
    · rw [if_pos hr] at q; exact absurd q.symm hd
    · rw [if_neg hr] at q; exact ⟨hr, q.symm⟩
  have hview : ∀ id b, view (top 7) h0 id = some b → b ≠ .dead ∧ ((id = 6 ∧ blkOf (os.map Ob.row) = b) ∨ (id = 5 ∧ blkOf (es.map Ed.row) = b) ∨ (id = 4 ∧ blkOf (ns.map Nd.row) = b)) := fun id b q => by
    have q1 := (getB_view q).1
    refine ⟨fun hd => ?_, ?_⟩
    · have q2 := view_get q
      unfold view at q
      rw [q2, hd] at q
      cases q
    · have q2 : Tr.get (h7 (blkOf (ns.map Nd.row)) (blkOf (es.map Ed.row)) (blkOf (os.map Ob.row))).t id = some b := q1
      rw [h7_get] at q2
      by_cases h6 : id = 6
      · rw [if_pos h6] at q2; cases q2; exact Or.inl ⟨h6, rfl⟩
      · rw [if_neg h6] at q2
        by_cases h5 : id = 5
        · rw [if_pos h5] at q2; cases q2; exact Or.inr (Or.inl ⟨h5, rfl⟩)
        · rw [if_neg h5] at q2
          by_cases h4 : id = 4
          · rw [if_pos h4] at q2; cases q2; exact Or.inr (Or.inr ⟨h4, rfl⟩)
          · rw [if_neg h4] at q2; cases q2
  have hr : HR h0.n β (view (top h0.n) h0) w := by
    refine ⟨fun id b q => ?_, fun i j b d L M q1 q2 _ _ _ => ?_⟩
    · obtain ⟨hd, q0⟩ := hview id b q
      clear q
      rcases q0 with ⟨rfl, q⟩ | ⟨rfl, q⟩ | ⟨rfl, q⟩
      · obtain ⟨hne, rfl⟩ := dead _ _ q hd
        exact ⟨_, b6, s3.br hne (by decide) β⟩
      · obtain ⟨hne, rfl⟩ := dead _ _ q hd
        exact ⟨_, b5, s2.br hne (by decide) β⟩
      · obtain ⟨hne, rfl⟩ := dead _ _ q hd
        exact ⟨_, b4, s1.br hne (by decide) β⟩
    · have i7 : i < 7 := by rcases (hview i b q1).2 with ⟨rfl, _⟩ | ⟨rfl, _⟩ | ⟨rfl, _⟩ <;> omega
      have j7 : j < 7 := by rcases (hview j d q2).2 with ⟨rfl, _⟩ | ⟨rfl, _⟩ | ⟨rfl, _⟩ <;> omega
      exact Or.inr ⟨i7, j7⟩
  have hgb : GB Tryz.prog.globals.size β := fun g hg => ⟨0, by rw [ng4] at hg; simp [β, hg]⟩
  have hwf : WF h0 := ⟨fun id hid => by
    have hid' : 7 ≤ id := hid
    show Tr.get (h7 _ _ _).t id = none
    rw [h7_get, if_neg (by omega), if_neg (by omega), if_neg (by omega)], by show (7 : Nat) ≤ _; omega⟩
  have hvr : VRs β [.agg [slAV 4 3 (ns.map Nd.row) v1, slAV 5 4 (es.map Ed.row) v2, .int .i64 mn], .agg [.int .i64 en, slAV 6 5 (os.map Ob.row) v3]] [.agg #[v1, v2, .int .i64 mn], .agg #[.int .i64 en, v3]] := by
    refine ⟨_, _, rfl, ⟨_, rfl, ⟨_, _, rfl, s1.vr (fun _ => b4), ⟨_, _, rfl, s2.vr (fun _ => b5), ⟨_, _, rfl, rfl, rfl⟩⟩⟩⟩, ⟨_, _, rfl, ⟨_, rfl, ⟨_, _, rfl, rfl, ⟨_, _, rfl, s3.vr (fun _ => b6), rfl⟩⟩⟩, rfl⟩⟩
  refine (top_of mixed noGoroutines noExt0 Mx_ok hg hwf hgb hr (fun id hid => ?_) hvr).mono fun e w' ⟨β', val, h1, h2, _, h4⟩ => ?_
  · have hid' : 7 ≤ id := hid
    show (if id < 4 then _ else if id = 4 then _ else if id = 5 then _ else if id = 6 then _ else none) = none
    rw [if_neg (by omega), if_neg (by omega), if_neg (by omega), if_neg (by omega)]
  · simp only [VR] at h2
    subst h2
    exact ⟨h1, h4⟩
end Go.Proofs.YtlocnfaeiacphaaGreatDoor.Ev
