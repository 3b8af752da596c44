/- The walk of the law FindingSorts. -/
import Derived.Test.YtffmeglcakcpdaaDoorWalkW
set_option linter.unusedVariables false
namespace Go.Proofs.YtffmeglcakcpdaaDoor
open Go.RowKit

/-- what Sort leaves, nil or not -/
def SortG (w : World) (xs : List El) (e : Ending) (w' : World) : Prop :=
  ∃ a cap t zs, e = .returned (.slice a zs.length cap) ∧ t.Perm xs ∧ Srt.Sorted cmpEl t ∧ zs.map El.f = (compact t).map El.f ∧ ElsOf w' a zs ∧ (∀ x ∈ zs, GoodIn w' x) ∧ Below w.heap.size w w'
theorem sortG_any (a : Option Addr) (cp : Nat) (xs : List El) (w : World) (hn : xs.length ≤ 1099511627776) (hp : ∀ x ∈ xs, x.f.path.length * 40 ≤ 140737488355328) (h : ElsOf w a xs) (hnil : a = none → xs = []) (hG : ∀ x ∈ xs, GoodIn w x) :
    Calls Tryd.prog 16 #[.slice a xs.length cp] w (SortG w xs) := by
  cases a with
  | none =>
    have := hnil rfl
    subst this
    refine (sort_nil cp w).mono ?_
    rintro e w' ⟨rfl, hb⟩
    exact ⟨none, 0, [], [], rfl, List.Perm.refl _, List.Pairwise.nil, rfl, Or.inl rfl, fun x hx => (by cases hx), hb⟩
  | some a =>
    refine (sort_some a cp xs w hn hp (h.imp id fun ⟨b, off, e, r⟩ => ⟨b, off, by cases e; rfl, r⟩) hG).mono ?_
    rintro e w' ⟨g, cap, t, zs, rfl, hg, hp1, hs1, hf1, hA, hl, hG1, hb⟩
    exact ⟨some ⟨g, 0, none⟩, cap, t, zs, rfl, hp1, hs1, hf1, Or.inr ⟨g, 0, rfl, hl, hA⟩, hG1, hb⟩

set_option maxHeartbeats 4000000 in
theorem sorts_any (a : Option Addr) (cp : Nat) (xs : List El) (w : World) (hE : Env w) (hn : xs.length ≤ 4398046511104) (h : ElsOf w a xs) (hnil : a = none → xs = []) (hG : ∀ x ∈ xs, GoodIn w x) (hp : ∀ x ∈ xs, x.f.path.length * 40 ≤ 140737488355328) :
    Calls Tryd.prog 4 #[.slice a xs.length cp] w fun e w' => e = .returned (.bool true) ∧ Below w.heap.size w w' := by
  have HE := Lib.hid hE
  have HX := Lib.hid h
  have HN := Lib.hid hnil
  have HG := Lib.hid hG
  have HP := Lib.hid hp
  clear hE h hnil hG hp
  go_enter Tryd.func4, Tryd.ntmps4
  go_wp2_with fail
  refine (size_any a cp xs w hn HP.out HX.out).mono ?_
  rintro e w1 ⟨⟨r, rfl, hr⟩, hb1⟩
  have B1 := Lib.hid hb1
  clear hb1
  cases r with
  | false =>
    clear hr
    go_wp2_with fail
    refine (awake_any _ (HE.out.below B1.out)).mono ?_
    rintro e w2 ⟨rfl, hb2⟩
    have B2 : Hid (Below w.heap.size w w2) := over hb2 B1.out B1.out.size
    clear hb2
    go_wp2_with fail
    go_ret
    exact ⟨rfl, B2.out⟩
  | true =>
    have h60 : xs.length ≤ 60 := hr rfl
    clear hr
    go_wp2_with fail
    refine (sortG_any a cp xs w1 (by omega) HP.out (HX.out.below B1.out) HN.out (fun x hx => (HG.out x hx).below B1.out)).mono ?_
    rintro e w2 ⟨a2, c2, t, zs, rfl, hp1, hs1, hf1, hA2, hG2, hb2⟩
    have B2 : Hid (Below w.heap.size w w2) := over hb2 B1.out B1.out.size
    have H2 := Lib.hid (And.intro hp1 (And.intro hs1 (And.intro hf1 (And.intro hA2 hG2))))
    clear hp1 hs1 hf1 hA2 hG2 hb2
    go_wp2_with fail
    refine (refSort_any a cp xs w2 (by omega) (HX.out.below B2.out) (fun x hx => (HG.out x hx).below B2.out)).mono ?_
    rintro e w3 ⟨v3, l, rfl, own, R, hb3⟩
    obtain ⟨a3, c3, rfl, hc3, hels3, _, _⟩ := own.form
    have B3 : Hid (Below w.heap.size w w3) := over hb3 B2.out B2.out.size
    have H3 := Lib.hid hels3
    have HB23 := Lib.hid hb3
    have hsame : Hid (SameEls zs l) := (refS_same H2.out.1 H2.out.2.1 R).of_f H2.out.2.2.1 rfl
    have GL : Hid (∀ x ∈ l, GoodIn w3 x) := fun x hx => (HG.out x (R.sub x hx)).below B3.out
    have hlen : zs.length ≤ 60 := by
      have h1 := compact_len t
      have h2 := congrArg List.length H2.out.2.2.1
      have h3 := H2.out.1.length_eq
      simp at h2 h3; omega
    clear own R hb3 hels3 hc3
    go_wp2_with fail
    refine (same_any a2 a3 c2 c3 zs l w3 (by omega) hsame.out (H2.out.2.2.2.1.below HB23.out) H3.out (fun q hq => (H2.out.2.2.2.2 q hq).below HB23.out) GL.out).mono ?_
    rintro e w4 ⟨rfl, hb4⟩
    have B4 : Hid (Below w.heap.size w w4) := over hb4 B3.out B3.out.size
    clear hb4
    go_wp2_with fail
    refine (awake_any _ (HE.out.below B4.out)).mono ?_
    rintro e w5 ⟨rfl, hb5⟩
    have B5 : Hid (Below w.heap.size w w5) := over hb5 B4.out B4.out.size
    clear hb5
    go_wp2_with fail
    go_ret
    exact ⟨rfl, B5.out⟩
end Go.Proofs.YtffmeglcakcpdaaDoor
