/- The law: whatever the unit and the numbers, it returns true. -/
import Derived.Test.YtndmnbigfpaenaaGreatDoorCB
import Derived.Test.YtndmnbigfpaenaaGreatDoorCE
import Derived.Lib.QuietBelow
import Derived.BigQuiet
set_option linter.unusedVariables false
set_option linter.unusedSimpArgs false
namespace Go.Proofs.YtndmnbigfpaenaaGreatDoor
open Go.RowKit
/-- the same, and what stands behind the region is asked in every world that is 'Below' -/
theorem wp_region_below {P : Program} {id : Nat} {Q : Exit → Act → World → Prop} {a : Act} {w : World} {l : List Oper} (hm : P.follows .mixedOrders = true) (hB : Region.lexB .any l.toArray = true)
    (h : wpQuiet P l.toArray (fun w' => ∃ p : Regrown, w' = Sort.grow (redrawn w p.d) p.os) (fun a' => ∀ w', Hid (Below w.heap.size w w') → Q .normal a' w') l a) : (Code.region id l.toArray true).wp P Q a w :=
  wp_region_quiet (C := fun w' => ∃ p : Regrown, w' = Sort.grow (redrawn w p.d) p.os) hm hB ⟨⟨w.drawn + 1, #[]⟩, by rw [Sort.grow_empty]; rfl⟩ (by
    have e : (fun a' => ∀ w', Hid (Below w.heap.size w w') → Q .normal a' w') = (fun a' => ∀ w', (∃ p : Regrown, w' = Sort.grow (redrawn w p.d) p.os) → Q .normal a' w') := by
      funext a'
      apply propext
      constructor
      · intro h w' hw
        obtain ⟨p, rfl⟩ := hw
        exact h _ (below_regrown w p.d p.os)
      · intro h w' hw
        exact h w' (regrown_of_below hw)
    rw [e] at h
    simpa using h)


set_option maxHeartbeats 4000000 in
theorem law_any (fs : List Fn) (ha : Option Addr) (hn hc : Nat) (a : Option Addr) (cp : Nat) (m f v : Int) (w : World) (hE : Ev.Env w) (bf : -9223372036854775808 ≤ f ∧ f ≤ 9223372036854775807) (bv : -9223372036854775808 ≤ v ∧ v ≤ 9223372036854775807) (hcp : fs.length ≤ cp) (hcb : cp ≤ 140737488355328) (hv : ∀ x ∈ fs, x.vn ≤ 140737488355328) (hA : FnsAt w a fs) :
    Calls Tryz.prog 3 #[.agg #[.slice ha hn hc, .slice a fs.length cp, .int .i64 m], .int .i64 f, .int .i64 v] w fun e w' => e = .returned (.bool true) ∧ Below w.heap.size w w' := by
  have HV := Lib.hid hv
  have HA := Lib.hid hA
  have HE := Lib.hid hE
  clear hv hA hE
  by_cases h60 : 60 < fs.length
  · go_enter Tryz.func3, Tryz.ntmps3
    go_wp2_with fail
    go_ret
    exact ⟨rfl, by go_grown⟩
  · have hl : fs.length ≤ 60 := by omega
    go_enter Tryz.func3, Tryz.ntmps3
    go_wp2_with fail
    have k0 : (w.alloc (.cells #[.slice ha hn hc, .slice a fs.length cp, .int .i64 m] 27)).cell? ⟨w.heap.size, 0, none⟩ = some (.slice ha hn hc) := by go_simp
    have k1 : (w.alloc (.cells #[.slice ha hn hc, .slice a fs.length cp, .int .i64 m] 27)).cell? ⟨w.heap.size, 1, none⟩ = some (.slice a fs.length cp) := by go_simp
    have k2 : (w.alloc (.cells #[.slice ha hn hc, .slice a fs.length cp, .int .i64 m] 27)).cell? ⟨w.heap.size, 2, none⟩ = some (.int .i64 m) := by go_simp
    have hb : Below w.heap.size w (w.alloc (.cells #[.slice ha hn hc, .slice a fs.length cp, .int .i64 m] 27)) := by go_grown
    have HB := Lib.hid hb
    have HEW := Lib.hid (Env.below HE.out hb)
    have HAW := Lib.hid (HA.out.below hb)
    clear hb HE HA
    generalize (w.alloc (.cells #[.slice ha hn hc, .slice a fs.length cp, .int .i64 m] 27)) = W at *
    generalize hs0 : w.heap.size = n0 at *
    have HS0 := Lib.hid hs0
    clear hs0
    have r0 := cell_regrown k0
    have r1 := cell_regrown k1
    have r2 := cell_regrown k2
    clear k0 k1 k2
    have C1 := Lib.hid (fun W' (hb : Below W.heap.size W W') => fact_any fs ha hn hc a cp m f v W' hl hcp hcb HV.out (HAW.out.below hb))
    have C2 := Lib.hid (fun W' (hb : Below W.heap.size W W') => factR38_any fs ha hn hc a cp m f v W' hl hcp hcb HV.out (HAW.out.below hb))
    have C3 := Lib.hid (fun W' (hb : Below W.heap.size W W') => Ev.knows_any W' (Env.below HEW.out hb))
    generalize factOf fs f v = vf at *
    refine wp_region_below (by kernel_rfl) (by kernel_rfl) ?_
    repeat (quiet_step (first
      | (go_at_call 4; exact Calls.regrown_of (C1.out _ (below_regrown _ _ _)))
      | (go_at_call 5; exact Calls.regrown_of (C2.out _ (below_regrown _ _ _)))
      | (go_at_call 6; exact Calls.regrown_of (C3.out _ (below_regrown _ _ _)))))
    refine wpQuiet_nil ?_
    clear r0 r1 r2
    intro wq hq
    go_wp2_with fail
    go_ret
    refine ⟨ret_bool (by simp), ?_⟩
    have h := over hq.out HB.out (by rw [← HS0.out]; exact HB.out.size)
    rw [HS0.out]; exact h
end Go.Proofs.YtndmnbigfpaenaaGreatDoor
