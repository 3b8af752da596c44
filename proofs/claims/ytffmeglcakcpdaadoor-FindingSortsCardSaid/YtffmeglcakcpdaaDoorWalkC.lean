/- Contracts of Compare of package finding, and of the reference's Compare. -/
import Derived.Test.YtffmeglcakcpdaaDoorWalkB
namespace Go.Proofs.YtffmeglcakcpdaaDoor
open Go.RowKit

/-- a finding -/
structure Fd where
  kind : Int
  pl : Pl
  what : ByteArray
  path : List Pl
abbrev Fd.val (f : Fd) (a : Option Addr) (cp : Nat) : Value := .agg #[.int .i64 f.kind, .string f.pl.cls, .string f.pl.meth, .int .i64 f.pl.ins, .string f.what, .slice a f.path.length cp]
def cmpFd (a b : Fd) : Int :=
  if cmpPl a.pl b.pl = 0 then
    if Lib.compareInt a.kind b.kind = 0 then
      if Lib.compareBytes a.what.data.toList b.what.data.toList = 0 then cmpPath a.path b.path else Lib.compareBytes a.what.data.toList b.what.data.toList
    else Lib.compareInt a.kind b.kind
  else cmpPl a.pl b.pl
theorem cmpFd_1 {a b : Fd} {x : Int} (hx : x = cmpPl a.pl b.pl) (h : x ≠ 0) : x = cmpFd a b := by
  subst hx; unfold cmpFd; rw [if_neg h]
theorem cmpFd_2 {a b : Fd} {x y : Int} (hx : x = cmpPl a.pl b.pl) (h : x = 0) (hy : y = Lib.compareInt a.kind b.kind) (h2 : y ≠ 0) : y = cmpFd a b := by
  subst hx hy; unfold cmpFd; rw [if_pos h, if_neg h2]
theorem cmpFd_3 {a b : Fd} {x y z : Int} (hx : x = cmpPl a.pl b.pl) (h : x = 0) (hy : y = Lib.compareInt a.kind b.kind) (h2 : y = 0) (hz : z = Lib.compareBytes a.what.data.toList b.what.data.toList) (h3 : z ≠ 0) : z = cmpFd a b := by
  subst hx hy hz; unfold cmpFd; rw [if_pos h, if_pos h2, if_neg h3]
theorem cmpFd_4 {a b : Fd} {x y z : Int} (hx : x = cmpPl a.pl b.pl) (h : x = 0) (hy : y = Lib.compareInt a.kind b.kind) (h2 : y = 0) (hz : z = Lib.compareBytes a.what.data.toList b.what.data.toList) (h3 : z = 0) : cmpPath a.path b.path = cmpFd a b := by
  subst hx hy hz; unfold cmpFd; rw [if_pos h, if_pos h2, if_pos h3]

set_option maxHeartbeats 1000000 in
theorem compare_any (x y : Fd) (a b : Option Addr) (cp cq : Nat) (w : World) (hm : x.path.length ≤ 281474976710656) (hp : PathAt w a x.path) (hq : PathAt w b y.path) :
    Calls Tryd.prog 8 #[x.val a cp, y.val b cq] w fun e w' => e = .returned (.int .i64 (cmpFd x y)) ∧ Below w.heap.size w w' := by
  unfold Fd.val
  generalize hc1 : cmpPl x.pl y.pl = c1
  generalize hc2 : Lib.compareInt x.kind y.kind = c2
  generalize hc3 : Lib.compareBytes x.what.data.toList y.what.data.toList = c3
  have H1 := Lib.hid hc1.symm
  have H2 := Lib.hid hc2.symm
  have H3 := Lib.hid hc3.symm
  have HP := Lib.hid hp
  have HQ := Lib.hid hq
  clear hc1 hc2 hc3 hp hq
  go_enter Tryd.func8, Tryd.ntmps8
  go_wp2_with fail
  refine (comparePlaces_any x.pl y.pl _).mono ?_
  rintro e w1 ⟨rfl, hb1⟩
  have hz1 := hb1.size
  rw [← H1.out]
  by_cases h : c1 = 0
  · have h1 : (c1 != 0) = false := by simp [h]
    have Z1 := Lib.hid h
    clear h
    have k0 : w1.cell? ⟨w.heap.size, 0, none⟩ = some (.int .i64 x.kind) := by rw [hb1.cell (p := ⟨w.heap.size, _, none⟩) (by go_size)]; go_simp
    have k4 : w1.cell? ⟨w.heap.size, 4, none⟩ = some (.string x.what) := by rw [hb1.cell (p := ⟨w.heap.size, _, none⟩) (by go_size)]; go_simp
    have k5 : w1.cell? ⟨w.heap.size, 5, none⟩ = some (.slice a x.path.length cp) := by rw [hb1.cell (p := ⟨w.heap.size, _, none⟩) (by go_size)]; go_simp
    have l0 : w1.cell? ⟨w.heap.size + 1, 0, none⟩ = some (.int .i64 y.kind) := by rw [hb1.cell (p := ⟨w.heap.size + 1, _, none⟩) (by go_size)]; go_simp
    have l4 : w1.cell? ⟨w.heap.size + 1, 4, none⟩ = some (.string y.what) := by rw [hb1.cell (p := ⟨w.heap.size + 1, _, none⟩) (by go_size)]; go_simp
    have l5 : w1.cell? ⟨w.heap.size + 1, 5, none⟩ = some (.slice b y.path.length cq) := by rw [hb1.cell (p := ⟨w.heap.size + 1, _, none⟩) (by go_size)]; go_simp
    have B1 : Hid (Below w.heap.size w w1) := over hb1 (by go_grown) (by go_size)
    clear hb1
    go_wp2_with fail
    refine (Tryd.cmp_Compare_int _ _ _).mono ?_
    rintro e w' ⟨rfl, rfl⟩
    rw [← H2.out]
    by_cases h : c2 = 0
    · have h1 : (c2 != 0) = false := by simp [h]
      have Z2 := Lib.hid h
      clear h
      go_wp2_with fail
      refine (Tryd.strings_Compare _ _ _).mono ?_
      rintro e w' ⟨rfl, rfl⟩
      rw [← H3.out]
      by_cases h : c3 = 0
      · have h1 : (c3 != 0) = false := by simp [h]
        have Z3 := Lib.hid h
        clear h
        go_wp2_with fail
        refine (compareFunc_any x.path y.path a b cp cq _ hm (HP.out.below B1.out) (HQ.out.below B1.out)).mono ?_
        rintro e w2 ⟨rfl, hb2⟩
        have B2 : Hid (Below w.heap.size w w2) := over hb2 B1.out B1.out.size
        clear hb2
        go_wp2_with fail
        go_ret
        exact ⟨ret_int (cmpFd_4 H1.out Z1.out H2.out Z2.out H3.out Z3.out), B2.out⟩
      · have h1 : (c3 != 0) = true := by simp [h]
        have Z3 := Lib.hid h
        clear h
        go_wp2_with fail
        go_ret
        exact ⟨ret_int (cmpFd_3 H1.out Z1.out H2.out Z2.out H3.out Z3.out), B1.out⟩
    · have h1 : (c2 != 0) = true := by simp [h]
      have Z2 := Lib.hid h
      clear h
      go_wp2_with fail
      go_ret
      exact ⟨ret_int (cmpFd_2 H1.out Z1.out H2.out Z2.out), B1.out⟩
  · have h1 : (c1 != 0) = true := by simp [h]
    have Z1 := Lib.hid h
    clear h
    go_wp2_with fail
    go_ret
    exact ⟨ret_int (cmpFd_1 H1.out Z1.out), over hb1 (by go_grown) (by go_size)⟩

/-- the same, and what stands behind the region is asked in every world that is 'Below' -/
theorem wp_region_below {P : Program} {id : Nat} {Q : Exit → Act → World → Prop} {a : Act} {w : World} {l : List Oper} (hm : P.follows .mixedOrders = true) (hB : Region.lexB .any l.toArray = true)
    (h : wpQuiet P l.toArray (fun w' => ∃ p : Regrown, w' = Sort.grow (redrawn w p.d) p.os) (fun a' => ∀ w', Hid (Below w.heap.size w w') → Q .normal a' w') l a) : (Code.region id l.toArray true).wp P Q a w :=
  wp_region_quiet (C := fun w' => ∃ p : Regrown, w' = Sort.grow (redrawn w p.d) p.os) hm hB ⟨⟨w.drawn + 1, #[]⟩, by rw [Sort.grow_empty]; rfl⟩ (by
    have e : (fun a' => ∀ w', Hid (Below w.heap.size w w') → Q .normal a' w') = (fun a' => ∀ w', (∃ p : Regrown, w' = Sort.grow (redrawn w p.d) p.os) → Q .normal a' w') := by
      funext a'
      apply propext
      constructor
      · intro h w' hw
        obtain ⟨p, rfl⟩ := hw
        exact h _ (below_regrown w p.d p.os)
      · intro h w' hw
        exact h w' (regrown_of_below hw)
    rw [e] at h
    simpa using h)

theorem bcell {W w1 : World} (hb : Below W.heap.size W w1) : (∀ b o, b < W.heap.size → w1.cell? ⟨b, o, none⟩ = W.cell? ⟨b, o, none⟩) ∧ (∀ b o, b < W.heap.size → w1.frozen? ⟨b, o, none⟩ = W.frozen? ⟨b, o, none⟩) :=
  ⟨fun b o h => hb.cell (p := ⟨b, o, none⟩) h, fun b o h => hb.frozen (p := ⟨b, o, none⟩) h⟩

set_option maxHeartbeats 1000000 in
theorem compareR_any (x y : Fd) (a b : Option Addr) (cp cq : Nat) (w : World) (hm : x.path.length ≤ 281474976710656) (_hm' : y.path.length ≤ 281474976710656) (hp : PathAt w a x.path) (hq : PathAt w b y.path) :
    Calls Tryd.prog 9 #[x.val a cp, y.val b cq] w fun e w' => e = .returned (.int .i64 (cmpFd x y)) ∧ Below w.heap.size w w' := by
  unfold Fd.val
  generalize hc1 : cmpPl x.pl y.pl = c1
  generalize hc2 : Lib.compareInt x.kind y.kind = c2
  generalize hc3 : Lib.compareBytes x.what.data.toList y.what.data.toList = c3
  have H1 := Lib.hid hc1.symm
  have H2 := Lib.hid hc2.symm
  have H3 := Lib.hid hc3.symm
  have HP := Lib.hid hp
  have HQ := Lib.hid hq
  clear hc1 hc2 hc3 hp hq
  go_enter Tryd.func9, Tryd.ntmps9
  go_wp2_with fail
  refine (comparePlacesR_any x.pl y.pl _).mono ?_
  rintro e w1 ⟨rfl, hb1⟩
  have hz1 : w.heap.size + 2 ≤ w1.heap.size := by have := hb1.size; simp at this; omega
  obtain ⟨q1, q2⟩ := bcell hb1
  have B1 : Hid (Below w.heap.size w w1) := over hb1 (by go_grown) (by go_size)
  clear hb1
  rw [← H1.out]
  by_cases h : c1 = 0
  · have h1 : (c1 != 0) = false := by simp [h]
    have Z1 := Lib.hid h
    clear h
    go_wp2_with fail
    refine (numbers_any _ _ _).mono ?_
    rintro e w' ⟨rfl, rfl⟩
    rw [← H2.out]
    by_cases h : c2 = 0
    · have h1 : (c2 != 0) = false := by simp [h]
      have Z2 := Lib.hid h
      clear h
      go_wp2_with fail
      refine (words_any _ _ _).mono ?_
      rintro e w' ⟨rfl, rfl⟩
      rw [← H3.out]
      by_cases h : c3 = 0
      · have h1 : (c3 != 0) = false := by simp [h]
        have Z3 := Lib.hid h
        clear h
        have HF := Lib.hid (cmpFd_4 H1.out Z1.out H2.out Z2.out H3.out Z3.out)
        have k5 : w1.cell? ⟨w.heap.size, 5, none⟩ = some (.slice a x.path.length cp) := by rw [q1 _ _ (by go_size)]; go_simp
        have l5 : w1.cell? ⟨w.heap.size + 1, 5, none⟩ = some (.slice b y.path.length cq) := by rw [q1 _ _ (by go_size)]; go_simp
        clear q1 q2
        go_wp2_with fail
        go_loopw [8] (fun i wr => ∃ k : Nat, k ≤ x.path.length ∧ k ≤ y.path.length ∧ i = .int .i64 k ∧ Hid (Below w1.heap.size w1 wr) ∧ Hid (cmpPath x.path y.path = cmpPath (x.path.drop k) (y.path.drop k))) (fun i _ => x.path.length - (intOf i).toNat)
        case atStart => exact ⟨0, Nat.zero_le _, Nat.zero_le _, rfl, Below.refl _ _, by simp [Hid]⟩
        case round =>
          obtain ⟨k, hk, hk', rfl, HB, HK⟩ := hrel
          have hsz := HB.out.size
          have k5' : wr.cell? ⟨w.heap.size, 5, none⟩ = some (.slice a x.path.length cp) := by rw [HB.out.cell (p := ⟨w.heap.size, _, none⟩) (by go_size)]; exact k5
          have l5' : wr.cell? ⟨w.heap.size + 1, 5, none⟩ = some (.slice b y.path.length cq) := by rw [HB.out.cell (p := ⟨w.heap.size + 1, _, none⟩) (by go_size)]; exact l5
          have BW := Lib.hid (over HB.out B1.out (by omega))
          by_cases hlt : k < x.path.length
          · by_cases hlt' : k < y.path.length
            · obtain ⟨ba, oa, ha, hbs, c0, c1', c2'⟩ := ((HP.out.below B1.out).below HB.out).get hlt
              obtain ⟨bb, ob, hb', hbs', d0, d1, d2⟩ := ((HQ.out.below B1.out).below HB.out).get hlt'
              subst ha
              subst hb'
              have kk0 := cell_regrown c0
              have kk1 := cell_regrown c1'
              have kk2 := cell_regrown c2'
              have kk3 := cell_regrown d0
              have kk4 := cell_regrown d1
              have kk5 := cell_regrown d2
              have kk6 := cell_regrown k5'
              have kk7 := cell_regrown l5'
              go_wp2_with fail
              refine wp_region_below (by kernel_rfl) (by kernel_rfl) ?_
              repeat (quiet_step (exact Calls.regrown_of (comparePlacesR_any x.path[k] y.path[k] _)))
              refine wpQuiet_nil ?_
              clear kk0 kk1 kk2 kk3 kk4 kk5 kk6 kk7
              intro wq hq
              by_cases h : cmpPl x.path[k] y.path[k] = 0
              · have h1 : (cmpPl x.path[k] y.path[k] != 0) = false := by simp [h]
                have H := Lib.hid h
                clear h
                go_wp2_with fail
                go_roundw
                case rel => exact ⟨k + 1, by omega, by omega, by go_num, over hq.out HB.out (by omega), HK.out.trans (cmpPath_step hlt hlt' H.out)⟩
                case measure => simp [intOf]; omega
              · have h1 : (cmpPl x.path[k] y.path[k] != 0) = true := by simp [h]
                have H := Lib.hid h
                clear h
                go_wp2_with fail
                go_ret
                exact ⟨ret_int (by rw [← HF.out, HK.out, cmpPath_stop hlt hlt' H.out]), over hq.out BW.out (by omega)⟩
            · go_wp2_with fail
              refine (numbers_any _ _ _).mono ?_
              rintro e w' ⟨rfl, rfl⟩
              go_wp2_with fail
              go_ret
              exact ⟨ret_int (by rw [← HF.out, HK.out, cmpPath_long hlt hlt']; unfold Lib.compareInt; rw [if_neg (by omega), if_pos (by omega)]), BW.out⟩
          · go_wp2_with fail
            refine (numbers_any _ _ _).mono ?_
            rintro e w' ⟨rfl, rfl⟩
            go_wp2_with fail
            go_ret
            refine ⟨ret_int ?_, BW.out⟩
            rw [← HF.out, HK.out]
            unfold Lib.compareInt
            by_cases hlt' : k < y.path.length
            · rw [cmpPath_short (by omega) hlt', if_pos (by omega)]
            · rw [cmpPath_end (by omega) hlt', if_neg (by omega), if_neg (by omega)]
      · have h1 : (c3 != 0) = true := by simp [h]
        have Z3 := Lib.hid h
        clear h
        go_wp2_with fail
        go_ret
        exact ⟨ret_int (cmpFd_3 H1.out Z1.out H2.out Z2.out H3.out Z3.out), B1.out⟩
    · have h1 : (c2 != 0) = true := by simp [h]
      have Z2 := Lib.hid h
      clear h
      go_wp2_with fail
      go_ret
      exact ⟨ret_int (cmpFd_2 H1.out Z1.out H2.out Z2.out), B1.out⟩
  · have h1 : (c1 != 0) = true := by simp [h]
    have Z1 := Lib.hid h
    clear h
    go_wp2_with fail
    go_ret
    exact ⟨ret_int (cmpFd_1 H1.out Z1.out), B1.out⟩
end Go.Proofs.YtffmeglcakcpdaaDoor
