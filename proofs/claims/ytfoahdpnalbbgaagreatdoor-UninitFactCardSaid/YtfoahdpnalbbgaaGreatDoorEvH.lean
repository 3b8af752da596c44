/- Soundness of the operations: slices and strings. -/
import Derived.Test.YtfoahdpnalbbgaaGreatDoorEvG
set_option linter.unusedVariables false
set_option linter.unusedSimpArgs false
namespace Go.Proofs.YtfoahdpnalbbgaaGreatDoor.Ev
open Go
section
variable {P : Program} {ng : Nat} {o : Oper} {c : C} {sl : Tr AV} {h : H}
theorem did_iaddr {t e : TypeId} {y z : Operand} {xy xz : XV} {id off len es esz i : Nat} {cap : Option Nat} {k : IntKind} (ho : o.op = .indexAddr t y z) (hy : cV y = some xy) (hz : cV z = some xz) (ht : P.underlying t = some (.slice e)) (hs : szA P e = some esz)
    (h1 : evV sl xy = .sl id off len es cap) (h2 : evV sl xz = .int k (.ofNat i)) (hi : i < len) (hw : WF h) : Did P ng o c sl h (.ptr id (off + i * esz)) h := by
  refine did_pure hw fun β a w hr hop => ?_
  have k1 := hop y (by simp [ho, Op.operands]) xy hy
  have k2 := hop z (by simp [ho, Op.operands]) xz hz
  rw [h1] at k1
  rw [h2] at k2
  simp only [VR] at k1 k2
  obtain ⟨L, o', cp, hL, hu, hle, hsz, hoo, hcap⟩ := k1
  have ho' : o' = L.base + off := by
    rcases hoo with e | ⟨e, _⟩
    · exact e
    · omega
  subst ho'
  have hi' : ((i : Nat) : Int) < ((len : Nat) : Int) := by omega
  refine ⟨.pointer (some ⟨L.blk, L.base + (off + i * esz), none⟩), ?_, by simp only [VR]; exact ⟨L, hL, rfl⟩⟩
  simp [execOp, ho, Instr.indexAt, k2, hu, asIntOf, run_underlying ht, szA_some hs, hi', hi, add_lit, Nat.add_assoc]
theorem did_idxS {t : TypeId} {y z : Operand} {xy xz : XV} {s : List Nat} {i b : Nat} {k : IntKind} (ho : o.op = .index t y z) (hy : cV y = some xy) (hz : cV z = some xz) (ht : P.underlying t = some .string)
    (h1 : evV sl xy = .str s) (h2 : evV sl xz = .int k (.ofNat i)) (hi : s[i]? = some b) (hw : WF h) : Did P ng o c sl h (.int .u8 (.ofNat b)) h := by
  refine did_pure hw fun β a w hr hop => ?_
  have k1 := hop y (by simp [ho, Op.operands]) xy hy
  have k2 := hop z (by simp [ho, Op.operands]) xz hz
  rw [h1] at k1
  rw [h2] at k2
  simp only [VR] at k1 k2
  obtain ⟨bs, hu, hbs⟩ := k1
  subst hbs
  rw [List.getElem?_map] at hi
  obtain ⟨c0, hc0, rfl⟩ := Option.map_eq_some_iff.1 hi
  have hc1 : bs[i]? = some c0 := by
    have : bs.data[i]? = some c0 := by simpa using hc0
    obtain ⟨hlt, he⟩ := Array.getElem?_eq_some_iff.1 this
    exact (getElem?_pos bs i hlt).trans (congrArg some he)
  refine ⟨.int .u8 c0.toNat, ?_, by simp [VR]⟩
  simp [execOp, ho, Instr.index, k2, hu, asIntOf, run_underlying ht, hc1]
/-- a slice of a slice -/
theorem vr_sliced {β : Bet} {id off len esz l u cp : Nat} {cap : Option Nat} {L : Loc} {oo : Nat} (hL : β id = some L) (hle : len ≤ cp) (hsz : oo + cp * esz ≤ L.size) (hoo : oo = L.base + off ∨ (len = 0 ∧ cp = 0)) (hcap : ∀ c, cap = some c → cp = c)
    (hlu : l ≤ u) (hun : u ≤ len) : VR β (.sl id (off + l * esz) (u - l) esz (cap.map (· - l))) (.slice (if cp = l then some ⟨L.blk, oo, none⟩ else (some (⟨L.blk, oo, none⟩ : Addr)).map (·.add (l * esz))) (u - l) (cp - l)) := by
  simp only [VR]
  have hc : ∀ d, cap.map (· - l) = some d → cp - l = d := fun d hd => by
    cases cap with
    | none => cases hd
    | some c => cases hd; rw [hcap c rfl]
  by_cases e : cp = l
  · rw [if_pos e]
    refine ⟨L, oo, cp - l, hL, rfl, by omega, ?_, Or.inr ⟨by omega, by omega⟩, hc⟩
    have : cp - l = 0 := by omega
    rw [this, Nat.zero_mul]; omega
  · rw [if_neg e]
    refine ⟨L, oo + l * esz, cp - l, hL, by simp [add_lit], by omega, ?_, Or.inl ?_, hc⟩
    · have : oo + l * esz + (cp - l) * esz = oo + cp * esz := by rw [Nat.add_assoc, ← Nat.add_mul]; congr 2; omega
      omega
    · rcases hoo with h1 | ⟨h1, h2⟩
      · omega
      · omega
/-- what a bound of a slice expression reads as -/
theorem opt_of {β : Bet} {a : Act} {d n : Nat} {y : Option Operand} {x : Option XV} (hx : cOpt y = some x) (hop : ∀ z, y = some z → ∀ q, cV z = some q → VR β (evV sl q) (a.eval z)) (hn : optNat sl d x = some n) :
    (y = none ∧ n = d) ∨ ∃ z k, y = some z ∧ a.eval z = .int k (n : Int) := by
  cases y with
  | none => simp [cOpt] at hx; subst hx; simp [optNat] at hn; exact Or.inl ⟨rfl, hn.symm⟩
  | some z =>
    simp only [cOpt, Option.map_eq_some_iff] at hx
    obtain ⟨q, hq, rfl⟩ := hx
    have h1 := hop z rfl q hq
    simp only [optNat] at hn
    cases hv : evV sl q with
    | int k m =>
      rw [hv] at hn h1
      cases m with
      | ofNat m => simp [asNat] at hn; subst hn; simp only [VR] at h1; exact Or.inr ⟨z, k, rfl, h1⟩
      | negSucc m => simp [asNat] at hn
    | _ => rw [hv] at hn; simp [asNat] at hn
theorem did_slice {t e : TypeId} {y : Operand} {lo hi : Option Operand} {xy : XV} {xl xh : Option XV} {id off len esz l u : Nat} {cap : Option Nat} (ho : o.op = .slice t y lo hi none) (hy : cV y = some xy) (hl : cOpt lo = some xl) (hh : cOpt hi = some xh)
    (ht : P.underlying t = some (.slice e)) (hs : szA P e = some esz) (h1 : evV sl xy = .sl id off len esz cap) (h2 : optNat sl 0 xl = some l) (h3 : optNat sl len xh = some u) (hlu : l ≤ u) (hun : u ≤ len) (hw : WF h) :
    Did P ng o c sl h (.sl id (off + l * esz) (u - l) esz (cap.map (· - l))) h := by
  refine did_pure hw fun β a w hr hop => ?_
  have k1 := hop y (by simp [ho, Op.operands]) xy hy
  rw [h1] at k1
  simp only [VR] at k1
  obtain ⟨L, oo, cp, hL, hu, hle, hsz, hoo, hcap⟩ := k1
  have b1 := opt_of (β := β) (a := a) hl (fun z hz q hq => hop z (by subst hz; simp [ho, Op.operands]) q hq) h2
  have b2 := opt_of (β := β) (a := a) hh (fun z hz q hq => hop z (by subst hz; simp [ho, Op.operands]) q hq) h3
  refine ⟨_, ?_, vr_sliced hL hle hsz hoo hcap hlu hun⟩
  have hlz : ((l : Nat) : Int) ≤ ((u : Nat) : Int) := by omega
  have huz : ((u : Nat) : Int) ≤ ((cp : Nat) : Int) := by omega
  have hucp : u ≤ cp := by omega
  have hnu : ¬ cp < u := by omega
  have hnl : ¬ u < l := by omega
  rcases b1 with ⟨rfl, rfl⟩ | ⟨z1, q1, rfl, e1⟩ <;> rcases b2 with ⟨rfl, rfl⟩ | ⟨z2, q2, rfl, e2⟩ <;>
    simp [execOp, ho, Instr.sliceAt, Instr.slice, Instr.sliceBounds, Instr.sliceBound, asIntOf, run_underlying ht, hu, szA_some hs, *]
end
end Go.Proofs.YtfoahdpnalbbgaaGreatDoor.Ev
