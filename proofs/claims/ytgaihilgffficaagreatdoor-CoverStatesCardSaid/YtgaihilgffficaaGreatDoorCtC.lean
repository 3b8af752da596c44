/- CoverStates, part 35 -/
import Derived.Test.YtgaihilgffficaaGreatDoorCxI
set_option linter.all false
set_option maxHeartbeats 4000000
namespace Go.Proofs.YtgaihilgffficaaGreatDoor.Ev
open Go
open Classical
abbrev jx (u : aK) (f : vL) : dN := el u.fns f.fn.toNat
abbrev due (u : aK) (f : vL) : bJ := el (el u.fns f.fn.toNat).code f.at_.toNat
structure kI (u : aK) (H : List nW) (f : vL) : Prop where
 f0 : 0 ≤ f.fn
 f1 : f.fn < u.fns.length
 vl : f.bg.length = (el u.fns f.fn.toNat).vars.length
 a0 : 0 ≤ f.at_
 a1 : f.at_ < (el u.fns f.fn.toNat).code.length
 v : ∀ i, i < f.bg.length → tF u H (el f.bg i) (el (el u.fns f.fn.toNat).vars i).ly
 ex : (el (el u.fns f.fn.toNat).code f.at_.toNat).op = 15 → o4 u H f.wI
structure Sx (u : aK) (f : vL) (g : Int) : Prop where
 op : (due u f).op = 9 ∨ (due u f).op = 10
 d : (due u f).dst ≠ -1 → (0 ≤ (due u f).dst ∧ (due u f).dst < (jx u f).vars.length) ∧ iD u.cl (el u.fns g.toNat).result (vt (jx u f) (due u f).dst)
structure WT (u : aK) (m : DM) : Prop where
 ne : 0 < m.aD.length
 fr : ∀ k, k < m.aD.length → kI u m.heap (el m.aD k)
 ln : ∀ k, k + 1 < m.aD.length → Sx u (el m.aD k) (el m.aD (k + 1)).fn
 ob : ∀ k, k < m.heap.length → B1 u m.heap (el m.heap k)
structure Bd (m : DM) (k : Nat) : Prop where
 fe : m.fe.length ≤ 1000
 hp : m.heap.length ≤ k
 n : 0 ≤ m.n ∧ m.n ≤ k
theorem wG.at {u : aK} (uo : wG u) {i : Int} (h0 : 0 ≤ i) (h1 : i < u.fns.length) : MQ u (el u.fns i.toNat) (el (allM u.cl) i.toNat).1 (el (allM u.cl) i.toNat).2 := uo.fn _ om
section
variable {u : aK}
theorem nX (uo : wG u) {H : List nW} {f : vL} (h : kI u H f) : (0 ≤ (due u f).op ∧ (due u f).op < 17) ∧ jv (jx u f) (due u f) ∧ ¬ rK (jx u f) f.at_.toNat ∧ iQ u.cl (jx u f) (due u f) = 0 := by
 have h1 := h.a0
 have h2 := h.a1
 exact xL ((uo.at h.f0 h.f1).ins _ om)
theorem B2 (uo : wG u) {H : List nW} {f : vL} (h : kI u H f) (he : ¬ lR (due u f).op) : f.at_ + 1 < (jx u f).code.length ∧ (el (jx u f).code (f.at_ + 1).toNat).op ≠ 15 := by
 have h1 := h.a0
 have h2 := h.a1
 have h3 := (nX uo h).2.2.1
 have e : ((f.at_.toNat : Nat) : Int) = f.at_ := by omega
 unfold rK at h3
 rw [e] at h3
 have h4 : ¬ (f.at_ + 1 = ((jx u f).code.length : Nat) ∨ (el (jx u f).code (f.at_ + 1).toNat).op = 15) := fun q => h3 (Or.inl ⟨he, q⟩)
 have h5 : f.at_ < ((jx u f).code.length : Nat) := h2
 exact ⟨by have : ¬ (f.at_ + 1 = ((jx u f).code.length : Nat)) := fun q => h4 (Or.inl q); omega, fun q => h4 (Or.inr q)⟩
theorem JX (uo : wG u) {H : List nW} {f : vL} (h : kI u H f) (hg : hasB (due u f).op 103 = true) : (0 ≤ (due u f).goto ∧ (due u f).goto < (jx u f).code.length) ∧ (el (jx u f).code (due u f).goto.toNat).op ≠ 15 := by
 obtain ⟨_, h2, h3, _⟩ := nX uo h
 exact ⟨h2.2.2.1 hg, fun q => h3 (Or.inr (Or.inl ⟨hg, q⟩))⟩
theorem kI.rd {H : List nW} {m : DM} (h : kI u H (el m.aD (m.aD.length - 1))) {v : Int} (hv : 0 ≤ v ∧ v < (jx u (el m.aD (m.aD.length - 1))).vars.length) : tF u H (dt u m v) (vt (jx u (el m.aD (m.aD.length - 1))) v) := by
 unfold dt
 by_cases q : (el (el m.aD (m.aD.length - 1)).bg v.toNat).kind = 0
 ·rw [if_pos q]; exact qF zH
 ·rw [if_neg q]
  have := h.vl
  have := hv.1
  have := hv.2
  exact h.v v.toNat (by simp only [jx] at *; omega)
theorem WT.tp (uo : wG u) {m : DM} (h : WT u m) : nY u m := by
 have hn := h.ne
 have k := h.fr (m.aD.length - 1) om
 exact ⟨hn, k.f0, k.f1, k.vl, k.a0, k.a1, (uo.at k.f0 k.f1).Q2⟩
theorem WT.tk {m : DM} (h : WT u m) {j : Nat} (h0 : 0 < j) (hj : j ≤ m.aD.length) : WT u (tg m j) := by
 have hl := B3 hj
 refine ⟨om, fun k hk => ?_, fun k hk => ?_, h.ob⟩
 ·rw [show el (tg m j).aD k = el m.aD k from fg (by omega)]
  exact h.fr k om
 ·rw [show el (tg m j).aD k = el m.aD k from fg (by omega), show el (tg m j).aD (k + 1) = el m.aD (k + 1) from fg (by omega)]
  exact h.ln k om
theorem zI (uo : wG u) {a nm d : List Nat} {s : cz} (h : cb u.cl a nm = some (d, s)) : d ∈ aA u.cl a ∧ d ∈ bK u.cl ∧ gB (aY u.cl d) nm = some s := by
 obtain ⟨c, hc, e⟩ := List.exists_of_findSome?_eq_some h
 cases hs : gB (aY u.cl c) nm with
 | none => rw [hs] at e; cases e
 | some t =>
  rw [hs] at e; cases e
  exact ⟨hc, cq hc, hs⟩
theorem MT {f : dN} {x : bJ} (h : xO u.cl f x = 0) : ∃ c d, cK u.cl (vt f x.a) x.name = some (c, d) ∧ (x.op = 7 → iD u.cl d.ly (vt f x.dst)) ∧ (x.op = 8 → iD u.cl (vt f x.b) d.ly) := by
 unfold xO at h
 obtain ⟨_, h⟩ := bF dc h
 cases hf : cK u.cl (vt f x.a) x.name with
 | none => rw [hf] at h; cases h
 | some r =>
  obtain ⟨c, d⟩ := r
  rw [hf] at h
  obtain ⟨h1, _⟩ := bF dc h
  exact ⟨c, d, rfl, fun q => Classical.byContradiction fun w => h1 (Or.inl ⟨q, w⟩), fun q => Classical.byContradiction fun w => h1 (Or.inr ⟨q, w⟩)⟩
theorem GS {f : dN} {x : bJ} (h : na u.cl f x = 0) : (x.op = 9 → vt f x.a = x.cls) ∧ ∃ s, zJ u.cl x s ∧ s.params.length = x.args.length ∧ (∀ i, i < x.args.length → iD u.cl (vt f (el x.args i)) (el s.params i)) ∧ (x.dst ≠ -1 → iD u.cl s.result (vt f x.dst)) := by
 unfold na at h
 obtain ⟨h1, h⟩ := bF dc h
 by_cases hs : ∃ s, zJ u.cl x s
 ·rw [dif_pos hs] at h
  refine ⟨fun q => (not_not.1 fun w => h1 ⟨q, w⟩).2, hs.choose, hs.choose_spec, ?_⟩
  unfold tG at h
  obtain ⟨h2, h⟩ := bF dc h
  obtain ⟨h3, h⟩ := bF dc h
  obtain ⟨h4, _⟩ := bF dc h
  exact ⟨not_not.1 h2, fun i hi => Classical.byContradiction fun q => h3 ⟨i, hi, q⟩, fun q => Classical.byContradiction fun w => h4 ⟨q, Or.inr w⟩⟩
 ·rw [dif_neg hs] at h; cases h
structure Po (u : aK) (m : DM) (x : bJ) : Prop where
 c0 : 0 ≤ cX u m x
 c1 : cX u m x < u.fns.length
 len : (fH u m x).length ≤ (el u.fns (cX u m x).toNat).vars.length
 v : ∀ i, i < (fH u m x).length → tF u m.heap (el (fH u m x) i) (el (el u.fns (cX u m x).toNat).vars i).ly
 r : x.dst ≠ -1 → iD u.cl (el u.fns (cX u m x).toNat).result (vt (jx u (el m.aD (m.aD.length - 1))) x.dst)
theorem DS (uo : wG u) {m : DM} (h : WT u m) (hx : (dF u m).op = 9 ∨ (dF u m).op = 10) (hk : (dF u m).op = 9 → (dt u m (dF u m).a).kind = 3) : Po u m (dF u m) := by
 have k := h.fr (m.aD.length - 1) (by have := h.ne; omega)
 obtain ⟨_, hr, _, ht⟩ := nX uo k
 simp only [due, jx] at hr ht
 rw [show el (el u.fns (el m.aD (m.aD.length - 1)).fn.toNat).code (el m.aD (m.aD.length - 1)).at_.toNat = dF u m from rfl] at hr ht
 generalize dF u m = x at *
 have hc : na u.cl (jx u (el m.aD (m.aD.length - 1))) x = 0 := by
  unfold iQ at ht
  rw [if_neg (by omega), if_neg (by omega), if_pos hx] at ht
  exact ht
 obtain ⟨h1, s, hs, hp, hf, hd⟩ := GS hc
 have hva : ∀ i, i < x.args.length → tF u m.heap (dt u m (el x.args i)) (el s.params i) := fun i hi => jA uo.hv (k.rd (GU hr (by rcases hx with q | q <;> rw [q] <;> decide) hi)) (hf i hi)
 rcases hx with h9 | h10
 ·have hs' : ∃ c, cb u.cl x.cls x.name = some (c, s) ∧ s.static = false := hs.elim (fun q => q.2) fun q => by have := q.1; omega
  obtain ⟨c, hl, hst⟩ := hs'
  obtain ⟨hR, hsup⟩ := k.rd (nc hr (by rw [h9]; decide) om) (hk h9)
  rw [show vt (jx u (el m.aD (m.aD.length - 1))) x.a = x.cls from h1 h9] at hsup
  have hcm := GQ hsup
  obtain ⟨d', s', hl', hst', hsame, hd'⟩ := MP uo.hv hcm hsup hl hst
  obtain ⟨_, g2, g3⟩ := zI uo hl'
  obtain ⟨e0, e1, fo, _⟩ := GR uo g2 g3
  have hF : cX u m x = qG u.fns d' x.name := by
   unfold cX ET
   rw [if_pos h9, show (el m.heap (dt u m x.a).n.toNat).cls = JU m.heap (dt u m x.a) from rfl, hl']
   exact if_neg (ff hst')
  have hA : fH u m x = [dt u m x.a] ++ x.args.map (dt u m) := by unfold fH; rw [if_pos h9]
  obtain ⟨f1, f2, f3, f4, f5, f6, f7, f8⟩ := fo.fits
  have hpn : pn s' = s.params.length + 1 := by unfold pn; rw [if_neg (ff hst'), ← hsame.1]
  rw [hpn] at f6 f8
  rw [← hsame.1] at f8
  refine ⟨by rw [hF]; exact e0, by rw [hF]; exact e1, ?_, fun i hi => ?_, fun q => ?_⟩
  ·rw [hF, hA]; simp only [List.length_append, List.length_map, List.length_singleton]; omega
  ·rw [hF]
   rw [hA] at hi ⊢
   simp only [List.length_append, List.length_map, List.length_singleton] at hi
   rcases i with _ | i
   ·show tF u m.heap (dt u m x.a) _
    rw [(f7 hst').2]
    exact fun _ => ⟨hR, hd'⟩
   ·rw [show el ([dt u m x.a] ++ x.args.map (dt u m)) (i + 1) = el (x.args.map (dt u m)) i from by rw [iw, if_neg (by simp)]; rfl, cQ (by omega)]
    have := f8 i om
    rw [show ((s.params.length : Int) + 1 - s.params.length + i).toNat = i + 1 by omega] at this
    rw [this]
    exact hva i om
  ·rw [hF, f4, ← hsame.2]; exact hd q
 ·have hs' : cb u.cl x.cls x.name = some (x.cls, s) ∧ s.static = true := hs.elim (fun q => by have := q.1; omega) fun q => q.2
  obtain ⟨hl, hst⟩ := hs'
  obtain ⟨_, g2, g3⟩ := zI uo hl
  obtain ⟨e0, e1, fo, _⟩ := GR uo g2 g3
  have hF : cX u m x = qG u.fns x.cls x.name := by unfold cX; rw [if_neg (by omega)]
  have hA : fH u m x = x.args.map (dt u m) := by unfold fH; rw [if_neg (by omega)]; rfl
  obtain ⟨f1, f2, f3, f4, f5, f6, f7, f8⟩ := fo.fits
  have hpn : pn s = s.params.length := by unfold pn; rw [if_pos hst]; omega
  rw [hpn] at f6 f8
  refine ⟨by rw [hF]; exact e0, by rw [hF]; exact e1, ?_, fun i hi => ?_, fun q => ?_⟩
  ·rw [hF, hA, List.length_map]; omega
  ·rw [hF]
   rw [hA] at hi ⊢
   rw [List.length_map] at hi
   rw [cQ hi]
   have := f8 i om
   rw [show ((s.params.length : Int) - s.params.length + i).toNat = i by omega] at this
   rw [this]
   exact hva i hi
  ·rw [hF, f4]; exact hd q
theorem GV (uo : wG u) {m : DM} (h : WT u m) (hx : (dF u m).op = 7 ∨ (dF u m).op = 8) (hk : (dt u m (dF u m).a).kind = 3) : o4 u m.heap (dt u m (dF u m).a) ∧ ∃ c d, cK u.cl (vt (jx u (el m.aD (m.aD.length - 1))) (dF u m).a) (dF u m).name = some (c, d) ∧ ((dF u m).op = 7 → iD u.cl d.ly (vt (jx u (el m.aD (m.aD.length - 1))) (dF u m).dst)) ∧ ((dF u m).op = 8 → iD u.cl (vt (jx u (el m.aD (m.aD.length - 1))) (dF u m).b) d.ly) ∧ dZ (el m.heap (dt u m (dF u m).a).n.toNat).bd (dF u m).name < (el m.heap (dt u m (dF u m).a).n.toNat).bd.length ∧ (el (dh u.cl (aA u.cl (el m.heap (dt u m (dF u m).a).n.toNat).cls)) (dZ (el m.heap (dt u m (dF u m).a).n.toNat).bd (dF u m).name)).ly = d.ly := by
 have k := h.fr (m.aD.length - 1) (by have := h.ne; omega)
 obtain ⟨_, hr, _, ht⟩ := nX uo k
 simp only [due, jx] at hr ht
 rw [show el (el u.fns (el m.aD (m.aD.length - 1)).fn.toNat).code (el m.aD (m.aD.length - 1)).at_.toNat = dF u m from rfl] at hr ht
 generalize dF u m = x at *
 have hc : xO u.cl (jx u (el m.aD (m.aD.length - 1))) x = 0 := by
  unfold iQ at ht
  rw [if_neg (by omega), if_pos hx] at ht
  exact ht
 obtain ⟨c, d, h1, h2, h3⟩ := MT hc
 obtain ⟨hR, hsup⟩ := k.rd (nc hr (by rcases hx with q | q <;> rw [q] <;> decide) om) hk
 have r0 := hR.n0
 have r1 := hR.n1
 obtain ⟨h4, h5⟩ := JV uo.hv (h.ob _ om) hsup h1
 exact ⟨hR, c, d, h1, h2, h3, h4, h5⟩
theorem WT.st (uo : wG u) {m : DM} (h : WT u m) {k : Nat} (b : Bd m k) (hk : k ≤ 1000000) : Pp u m (dF u m) := by
 have hn := h.ne
 have f := h.fr (m.aD.length - 1) om
 obtain ⟨ho, hr, _, ht⟩ := nX uo f
 simp only [due, jx] at ho hr ht
 rw [show el (el u.fns (el m.aD (m.aD.length - 1)).fn.toNat).code (el m.aD (m.aD.length - 1)).at_.toNat = dF u m from rfl] at ho hr ht
 have hm := GV uo h
 have hc := DS uo h
 have hvl := f.vl
 have iv : ∀ {v : Int}, (0 ≤ v ∧ v < (jx u (el m.aD (m.aD.length - 1))).vars.length) → Pe m v := fun q => ⟨q.1, by rw [hvl]; exact q.2⟩
 have hp := h.tp uo
 have hl := mG (m := m)
 have wp : 0 < (bz m).aD.length → WT u (bz m) := fun q => h.tk om om
 have hex : (dF u m).op = 15 → o4 u m.heap (el m.aD (m.aD.length - 1)).wI := f.ex
 generalize dF u m = x at *
 refine ⟨hp, uo.hv.ok.ct, uo.f256, fun i hi => (uo.fn i hi).Q2, ho, fun q => ?_, fun q w => ?_, fun q => ?_, fun q => ?_, fun q => ⟨?_, fun i hi => ?_⟩, fun q w => ?_, fun q w => ?_, fun q w => ?_, fun q w => (wp w).tp uo, fun q w z => ?_, fun q j h0 hj => (h.tk h0 hj).tp uo, fun q => ?_, ⟨b.n.1, by have := b.n.2; omega⟩, b.fe, by have := b.hp; omega, fun q => ⟨?_, fun i hi => ?_⟩⟩
 ·exact iv (nc hr (by rcases q with q | q | q | q | q | q | q | q <;> rw [q] <;> decide) om)
 ·exact iv (nc hr (by rw [q]; decide) (Or.inr w))
 ·exact iv (B4 hr (by rcases q with q | q <;> rw [q] <;> decide))
 ·exact iv (xP hr (by rcases q with q | q | q | q | q | q | q | q | q <;> rw [q] <;> decide) om om)
 ·have hc : na u.cl (jx u (el m.aD (m.aD.length - 1))) x = 0 := by
    unfold iQ at ht
    rw [if_neg (by omega), if_neg (by omega), if_pos q] at ht
    exact ht
  obtain ⟨_, s, hs, hpl, _, _⟩ := GS hc
  rw [← hpl]
  rcases hs with ⟨_, c, hl, _⟩ | ⟨_, hl, _⟩
  ·exact uo.hv.ok.h6 _ _ _ _ hl
  ·exact uo.hv.ok.h6 _ _ _ _ hl
 ·exact iv (GU hr (by rcases q with q | q <;> rw [q] <;> decide) hi)
 ·obtain ⟨hR, c, d, _, _, _, h4, _⟩ := hm q w
  exact ⟨⟨hR.n0, hR.n1⟩, h4⟩
 ·have hR := (f.rd (nc hr (by rw [q]; decide) om) w).1
  exact ⟨hR.n0, hR.n1⟩
 ·have c := hc q w
  exact ⟨⟨c.c0, c.c1⟩, (uo.at c.c0 c.c1).MR, c.len⟩
 ·have w2 := wp w
  have l := h.ln (m.aD.length - 2) om
  have e : el (bz m).aD ((bz m).aD.length - 1) = el m.aD (m.aD.length - 2) := by
   rw [hl]
   exact fg om
  have fz := w2.fr ((bz m).aD.length - 1) om
  rw [fz.vl]
  unfold zC at z ⊢
  rw [e] at z ⊢
  exact (l.d z).1
 ·have r := hex q
  exact ⟨r.n0, r.n1⟩
 ·have := JW uo.hv x.cls; omega
 ·have h1 := xN uo.hv.f16 ((aA u.cl x.cls).take i) fun d hd => cq (List.mem_of_mem_take hd)
  have h2 := gF (s := x.cls) uo.hv.ok.ct
  have h3 := uo.hv.f16 (el (aA u.cl x.cls) i) (cq (b8 hi))
  rw [List.length_take] at h1
  omega
end
theorem zB.refl {H : List nW} : zB H H := ⟨Nat.le_refl _, fun _ _ => rfl⟩
theorem kI.le {u : aK} {H H' : List nW} {f : vL} (h : kI u H f) (l : zB H H') : kI u H' f := ⟨h.f0, h.f1, h.vl, h.a0, h.a1, fun i hi => (h.v i hi).le l, fun q => (h.ex q).le l⟩
theorem kI.at {u : aK} {H : List nW} {f : vL} (h : kI u H f) {a : Int} (h0 : 0 ≤ a) (h1 : a < (jx u f).code.length) (h2 : (el (jx u f).code a.toNat).op ≠ 15) : kI u H {f with at_ := a} := ⟨h.f0, h.f1, h.vl, h0, h1, h.v, fun q => absurd q h2⟩
theorem kI.set {u : aK} {H H' : List nW} {f : vL} (h : kI u H f) (l : zB H H') {v : Int} {x : dC} (hv : 0 ≤ v ∧ v < (jx u f).vars.length) (hx : tF u H' x (vt (jx u f) v)) {a : Int} (h0 : 0 ≤ a) (h1 : a < (jx u f).code.length) (h2 : (el (jx u f).code a.toNat).op ≠ 15) : kI u H' {f with bg := f.bg.set v.toNat x, at_ := a} := by
 have hl := h.vl
 have hv1 := hv.1
 have hv2 := hv.2
 simp only [jx] at hv2
 refine ⟨h.f0, h.f1, by show (f.bg.set v.toNat x).length = _; rw [List.length_set]; exact h.vl, h0, h1, fun i hi => ?_, fun q => absurd q h2⟩
 replace hi : i < (f.bg.set v.toNat x).length := hi
 rw [List.length_set] at hi
 show tF u H' (el (f.bg.set v.toNat x) i) _
 rw [dp (by omega)]
 by_cases q : i = v.toNat
 ·rw [if_pos q, q]; exact hx
 ·rw [if_neg q]; exact (h.v i hi).le l
theorem WT.nK {u : aK} {m m2 : DM} (h : WT u m) {f : vL} (e : m2.aD = m.aD.set (m.aD.length - 1) f) (l : zB m.heap m2.heap) (ob : ∀ k, k < m2.heap.length → B1 u m2.heap (el m2.heap k)) (hf : kI u m2.heap f) (hn : f.fn = (el m.aD (m.aD.length - 1)).fn) : WT u m2 := by
 have h0 := h.ne
 have hl : m2.aD.length = m.aD.length := by rw [e, List.length_set]
 refine ⟨om, fun k hk => ?_, fun k hk => ?_, ob⟩
 ·rw [e, dp (by omega)]
  by_cases q : k = m.aD.length - 1
  ·rw [if_pos q]; exact hf
  ·rw [if_neg q]; exact (h.fr k om).le l
 ·rw [e, dp (by omega), dp (by omega), if_neg (by omega)]
  have q2 := h.ln k om
  by_cases q : k + 1 = m.aD.length - 1
  ·rw [if_pos q, hn, ← q]; exact q2
  ·rw [if_neg q]; exact q2
section
variable {u : aK}
theorem WT.Pq (uo : wG u) {m0 m : DM} (h0 : WT u m0) (e : m.aD = m0.aD) (l : zB m0.heap m.heap) (ob : ∀ k, k < m.heap.length → B1 u m.heap (el m.heap k)) {v : Int} {x : dC} (hv : 0 ≤ v ∧ v < (jx u (el m0.aD (m0.aD.length - 1))).vars.length) (hx : tF u m.heap x (vt (jx u (el m0.aD (m0.aD.length - 1))) v)) (he : ¬ lR (due u (el m0.aD (m0.aD.length - 1))).op) : WT u (sr m v x) := by
 have f := h0.fr (m0.aD.length - 1) (by have := h0.ne; omega)
 obtain ⟨n1, n2⟩ := B2 uo f he
 have a0 := f.a0
 refine h0.nK (f := {el m0.aD (m0.aD.length - 1) with bg := (el m0.aD (m0.aD.length - 1)).bg.set v.toNat x, at_ := (el m0.aD (m0.aD.length - 1)).at_ + 1}) ?_ l ob (f.set l hv hx om n1 n2) rfl
 unfold sr sw
 rw [e]
theorem WT.Rf (uo : wG u) {m : DM} (h : WT u m) {a : Int} (h0 : 0 ≤ a) (h1 : a < (jx u (el m.aD (m.aD.length - 1))).code.length) (h2 : (el (jx u (el m.aD (m.aD.length - 1))).code a.toNat).op ≠ 15) : WT u (Ps m a) := by
 have f := h.fr (m.aD.length - 1) (by have := h.ne; omega)
 exact h.nK rfl zB.refl h.ob (f.at h0 h1 h2) rfl
theorem WT.Pt (uo : wG u) {m m2 : DM} (h : WT u m) {e : dC} (he : o4 u m.heap e) (hr : JY u m e 0 m2) : WT u m2 := by
 rcases hr with ⟨q, _⟩ | ⟨_, j, h0, hj, hc, rfl⟩
 ·cases q
 have w := h.tk h0 hj
 have hl := B3 hj
 have f := h.fr (j - 1) om
 have e1 : el (tg m j).aD ((tg m j).aD.length - 1) = el m.aD (j - 1) := by rw [hl]; exact fg om
 obtain ⟨_, hr, _, _⟩ := nX uo f
 have hcat := hr.2.2.2.resolve_left hc
 refine w.nK (f := {el m.aD (j - 1) with at_ := MU u (el m.aD (j - 1)), wI := e}) rfl zB.refl w.ob ⟨f.f0, f.f1, f.vl, hcat.1, hcat.2.1, f.v, fun _ => he⟩ (by rw [e1])
theorem EU (uo : wG u) {c : List Nat} (hc : c ∈ bK u.cl) : c ∈ aA u.cl c := GO uo.hv hc
theorem JZ (uo : wG u) {m : DM} (h : WT u m) (hx : (dF u m).op = 6) : wJ u m < bH u.fns := by
 have f := h.fr (m.aD.length - 1) (by have := h.ne; omega)
 have h0 := f.f0
 have h1 := f.f1
 have h2 := f.a0
 have h3 := f.a1
 have s1 : ∀ (l : List dN) (i : Nat), i ≤ l.length → bH (l.take i) ≤ bH l := fun l i hi => by
  unfold bH
  conv => rhs; rw [← List.take_append_drop i l]
  rw [List.map_append, List.sum_append]; omega
 have s2 : ∀ (l : List bJ) (i : Nat), eP (l.take i) ≤ eP l := fun l i => by
  unfold eP
  conv => rhs; rw [← List.take_append_drop i l]
  rw [List.filter_append, List.length_append]; omega
 have q1 := s1 u.fns ((el m.aD (m.aD.length - 1)).fn.toNat + 1) om
 rw [iR (by omega)] at q1
 have q2 := s2 (el u.fns (el m.aD (m.aD.length - 1)).fn.toNat).code ((el m.aD (m.aD.length - 1)).at_.toNat + 1)
 rw [j8 (by omega), if_pos (show (el (el u.fns (el m.aD (m.aD.length - 1)).fn.toNat).code (el m.aD (m.aD.length - 1)).at_.toNat).op = 6 from hx)] at q2
 unfold wJ
 omega
theorem WT.step (uo : wG u) {m m2 : DM} (h : WT u m) (hs : MV u m (dF u m) 0 m2) : WT u m2 := by
 have hn := h.ne
 have f := h.fr (m.aD.length - 1) om
 obtain ⟨ho, hr, _, ht⟩ := nX uo f
 have hm := GV uo h
 have hc := DS uo h
 have hsite := JZ uo h
 have a0 := f.a0
 have hgo := JX uo f
 have hnx := B2 uo f
 have hex : (dF u m).op = 15 → o4 u m.heap (el m.aD (m.aD.length - 1)).wI := f.ex
 have hlk : (dF u m).op = 9 ∨ (dF u m).op = 10 → dF u m = due u (el m.aD (m.aD.length - 1)) := fun _ => rfl
 have hend : ∀ {m' : DM} {v : Int} {y : dC}, m'.aD = m.aD → zB m.heap m'.heap → (∀ k, k < m'.heap.length → B1 u m'.heap (el m'.heap k)) → (0 ≤ v ∧ v < (jx u (el m.aD (m.aD.length - 1))).vars.length) → tF u m'.heap y (vt (jx u (el m.aD (m.aD.length - 1))) v) → ¬ lR (dF u m).op → WT u (sr m' v y) := fun e l ob hv hy he => h.Pq uo e l ob hv hy he
 simp only [due, jx] at ho hr ht hgo hnx hend
 rw [show el (el u.fns (el m.aD (m.aD.length - 1)).fn.toNat).code (el m.aD (m.aD.length - 1)).at_.toNat = dF u m from rfl] at ho hr ht hgo hnx
 generalize hxx : dF u m = x at *
 have hlen := mG (m := m)
 have ne' : x.op ≠ 12 → x.op ≠ 13 → x.op ≠ 14 → ¬ lR x.op := fun a b c q => by rcases q with q | q | q <;> omega
 rcases hs with ⟨q, _, rfl⟩ | ⟨q, _, rfl⟩ | ⟨q, hs⟩ | ⟨q, hs⟩ | ⟨q, hs⟩ | ⟨q, hs⟩ | ⟨q, hs⟩ | ⟨q, _, hs⟩
 ·obtain ⟨n1, n2⟩ := hnx (ne' om om om)
  exact h.Rf uo om n1 n2
 ·obtain ⟨⟨n0, n1⟩, n2⟩ := hgo (by rcases q with q | q <;> rw [q] <;> decide)
  exact h.Rf uo n0 n1 n2
 ·rcases hs with ⟨_, w, _⟩ | ⟨hk, _, hs⟩
  ·cases w
  obtain ⟨hR, c, d, h1, h2, h3, h4, h5⟩ := hm q hk
  have r0 := hR.n0
  have r1 := hR.n1
  have hob := h.ob (dt u m x.a).n.toNat om
  rcases hs with ⟨q7, rfl⟩ | ⟨q8, rfl⟩
  ·refine hend rfl zB.refl h.ob (xP hr (by rw [q7]; decide) om om) (jA uo.hv ?_ (h2 q7)) (ne' om om om)
   have := hob.v _ h4
   rw [h5] at this
   exact this
  ·have q8' : x.op = 8 := by omega
   obtain ⟨n1, n2⟩ := hnx (ne' om om om)
   have hy := jA uo.hv (f.rd (B4 hr (by rw [q8']; decide))) (h3 q8')
   generalize hNN : (dt u m x.a).n.toNat = N at *
   have hN : N < m.heap.length := by omega
   have l : zB m.heap (m.heap.set N {el m.heap N with bd := (el m.heap N).bd.set (dZ (el m.heap N).bd x.name) {el (el m.heap N).bd (dZ (el m.heap N).bd x.name) with v := dt u m x.b}}) := by
    refine ⟨by rw [List.length_set]; omega, fun i hi => ?_⟩
    rw [dp hN]
    by_cases w : i = N
    ·rw [if_pos w, w]
    ·rw [if_neg w]
   refine h.nK rfl l (fun k hk => ?_) ((f.le l).at om n1 n2) rfl
   replace hk : k < (m.heap.set N {el m.heap N with bd := (el m.heap N).bd.set (dZ (el m.heap N).bd x.name) {el (el m.heap N).bd (dZ (el m.heap N).bd x.name) with v := dt u m x.b}}).length := hk
   rw [List.length_set] at hk
   show B1 u (m.heap.set N _) (el (m.heap.set N _) k)
   rw [dp hN]
   have ob2 := h.ob k hk
   by_cases w : k = N
   ·rw [if_pos w]
    subst w
    refine ⟨ob2.c, by show (List.set _ _ _).length = _; rw [List.length_set]; exact ob2.len, fun i hi => ?_, fun i hi => ?_⟩
    ·replace hi : i < ((el m.heap k).bd.set (dZ (el m.heap k).bd x.name) {el (el m.heap k).bd (dZ (el m.heap k).bd x.name) with v := dt u m x.b}).length := hi
     rw [List.length_set] at hi
     show (el ((el m.heap k).bd.set _ _) i).name = _
     rw [dp h4]
     by_cases w : i = dZ (el m.heap k).bd x.name
     ·rw [if_pos w, w]; exact ob2.nm _ h4
     ·rw [if_neg w]; exact ob2.nm _ hi
    ·replace hi : i < ((el m.heap k).bd.set (dZ (el m.heap k).bd x.name) {el (el m.heap k).bd (dZ (el m.heap k).bd x.name) with v := dt u m x.b}).length := hi
     rw [List.length_set] at hi
     show tF u _ (el ((el m.heap k).bd.set _ _) i).v _
     rw [dp h4]
     by_cases w : i = dZ (el m.heap k).bd x.name
     ·rw [if_pos w, w]
      refine tF.le ?_ l
      show tF u m.heap (dt u m x.b) (el (dh u.cl (aA u.cl (el m.heap k).cls)) _).ly
      rw [h5]; exact hy
     ·rw [if_neg w]; exact (ob2.v _ hi).le l
   ·rw [if_neg w]
    exact ⟨ob2.c, ob2.len, ob2.nm, fun i hi => (ob2.v i hi).le l⟩
 ·rcases hs with ⟨_, w⟩ | ⟨_, hk, _, lS, iK, rfl⟩
  ·omega
  have c := hc q hk
  have fo := uo.at c.c0 c.c1
  have dx := hlk q
  have f0 : kI u m.heap (sx m (cX u m x) (fH u m x) (el u.fns (cX u m x).toNat).vars.length lS) := by
   refine ⟨c.c0, c.c1, iS, by show (0 : Int) ≤ 0; omega, by show (0 : Int) < ((el u.fns (cX u m x).toNat).code.length : Int); have := fo.ne; omega, fun i hi => ?_, fun w => ?_⟩
   ·replace hi : i < (tH (fH u m x) (el u.fns (cX u m x).toNat).vars.length).length := hi
    rw [iS] at hi
    show tF u m.heap (el (tH _ _) i) (el (el u.fns (cX u m x).toNat).vars i).ly
    rw [xQ hi]
    by_cases w : i < (fH u m x).length
    ·exact c.v i w
    ·rw [B5 (by omega)]; exact qF (by show (0 : Int) ≠ 3; decide)
   ·exact absurd (Or.inr (Or.inr ⟨rfl, w⟩)) (xL (fo.ins 0 fo.ne)).2.2.1
  have hll : (m.aD ++ [sx m (cX u m x) (fH u m x) (el u.fns (cX u m x).toNat).vars.length lS]).length = m.aD.length + 1 := by simp
  refine ⟨by show 0 < (m.aD ++ [_]).length; omega, fun k hk => ?_, fun k hk => ?_, h.ob⟩
  ·replace hk : k < (m.aD ++ [sx m (cX u m x) (fH u m x) (el u.fns (cX u m x).toNat).vars.length lS]).length := hk
   show kI u m.heap (el (m.aD ++ [_]) k)
   rw [fX]
   by_cases w : k < m.aD.length
   ·rw [if_pos w]; exact h.fr k w
   ·rw [if_neg w, show k - m.aD.length = 0 by omega]; exact f0
  ·replace hk : k + 1 < (m.aD ++ [sx m (cX u m x) (fH u m x) (el u.fns (cX u m x).toNat).vars.length lS]).length := hk
   show Sx u (el (m.aD ++ [_]) k) (el (m.aD ++ [_]) (k + 1)).fn
   rw [fX, fX, if_pos (by omega)]
   by_cases w : k + 1 < m.aD.length
   ·rw [if_pos w]; exact h.ln k w
   ·rw [if_neg w, show k + 1 - m.aD.length = 0 by omega, show k = m.aD.length - 1 by omega]
    refine ⟨by rw [← dx]; exact q, fun z => ?_⟩
    rw [← dx] at z ⊢
    exact ⟨(hr.1 (by rcases q with q | q <;> rw [q] <;> decide)).elim id fun w => absurd w.2 z, c.r z⟩
 ·rcases hs with ⟨_, w, _⟩ | ⟨hz, _, rfl⟩
  ·cases w
  have w2 : WT u (bz m) := h.tk (j := m.aD.length - 1) om om
  have e : el (bz m).aD ((bz m).aD.length - 1) = el m.aD (m.aD.length - 2) := by
   rw [hlen]
   exact fg om
  have l := h.ln (m.aD.length - 2) om
  rw [show m.aD.length - 2 + 1 = m.aD.length - 1 by omega] at l
  have fz := w2.fr ((bz m).aD.length - 1) om
  have lo : ¬ lR (due u (el (bz m).aD ((bz m).aD.length - 1))).op := by
   rw [e]; rintro (w | w | w) <;> rcases l.op with w2 | w2 <;> omega
  have hit : x.a = -1 ∨ iD u.cl (vt (jx u (el m.aD (m.aD.length - 1))) x.a) (jx u (el m.aD (m.aD.length - 1))).result := by
   unfold iQ at ht
   rw [if_neg (by omega), if_neg (by omega), if_neg (by omega)] at ht
   obtain ⟨_, ht⟩ := bF dc ht
   exact (GN dc ht).1.2.2.2.2.2.2.2 q
  have hv : (zC u (bz m) ≠ -1) → tF u m.heap (J0 u m x) (vt (jx u (el m.aD (m.aD.length - 2))) (zC u (bz m))) := fun z => by
   unfold J0
   by_cases qa : x.a = -1
   ·rw [if_pos qa]; exact qF (by show (0 : Int) ≠ 3; decide)
   ·rw [if_neg qa]
    refine jA uo.hv (jA uo.hv (f.rd (nc hr (by rw [q]; decide) (Or.inr qa))) (hit.resolve_left qa)) ?_
    unfold zC at z ⊢
    rw [e] at z ⊢
    exact (l.d z).2
  obtain ⟨n1, n2⟩ := B2 uo fz lo
  have b0 := fz.a0
  unfold Pg
  by_cases z : zC u (bz m) = -1
  ·rw [if_pos z]
   exact w2.Rf uo om n1 n2
  ·rw [if_neg z]
   refine w2.Pq uo rfl zB.refl w2.ob ?_ (by rw [e]; exact hv z) lo
   unfold zC at z ⊢
   rw [e] at z ⊢
   exact (l.d z).1
 ·rcases hs with ⟨_, w, _⟩ | ⟨hk, hs⟩
  ·cases w
  exact h.Pt uo (f.rd (nc hr (by rw [q]; decide) om) hk).1 hs
 ·rcases hs with ⟨hk, _, rfl⟩ | hs
  ·unfold iQ at ht
   rw [if_pos (by omega)] at ht
   obtain ⟨_, ht⟩ := bF dc ht
   obtain ⟨h3, _⟩ := bF dc ht
   exact hend rfl zB.refl h.ob (xP hr (by rw [q]; decide) om om) (jA uo.hv (fun _ => ⟨hex q, hk⟩) (not_not.1 h3)) (ne' om om om)
  ·exact h.Pt uo (hex q) hs
 ·have hd := xP hr (by rcases q with q | q | q | q | q | q | q <;> rw [q] <;> decide) om om
  rcases hs with ⟨l, v, hl, hv, rfl⟩ | ⟨q3, rfl⟩ | ⟨q6, zK, bV, rfl⟩
  ·exact hend rfl zB.refl h.ob hd (qF hv) (ne' om om om)
  ·refine hend rfl zB.refl h.ob hd (jA uo.hv (f.rd (nc hr (by rw [q3]; decide) om)) ?_) (ne' om om om)
   unfold iQ at ht
   rw [if_neg (by omega), if_neg (by omega), if_neg (by omega)] at ht
   obtain ⟨_, ht⟩ := bF dc ht
   exact (GN dc ht).1.2.2.1 q3
  ·unfold iQ at ht
   rw [if_pos (by omega)] at ht
   obtain ⟨h2, ht⟩ := bF dc ht
   obtain ⟨h3, _⟩ := bF dc ht
   have hcl : x.cls ∈ bK u.cl := not_not.1 h2
   have l : zB m.heap (m.heap ++ [⟨x.cls, jL u.cl x.cls, zK⟩]) := ⟨by simp, fun i hi => by rw [fX, if_pos hi]⟩
   have hsup := EU uo hcl
   have e0 : el (m.heap ++ [(⟨x.cls, jL u.cl x.cls, zK⟩ : nW)]) m.heap.length = ⟨x.cls, jL u.cl x.cls, zK⟩ := by rw [fX, if_neg (by omega), Nat.sub_self]; rfl
   refine hend rfl l (fun k hk => ?_) hd (jA uo.hv (fun _ => ⟨⟨by show (0 : Int) ≤ (m.heap.length : Int); omega, ?_, by show (0 : Int) ≤ (wJ u m : Int); omega, ?_⟩, ?_⟩) (not_not.1 h3)) (ne' om om om)
   ·replace hk : k < (m.heap ++ [(⟨x.cls, jL u.cl x.cls, zK⟩ : nW)]).length := hk
    rw [List.length_append, List.length_singleton] at hk
    show B1 u (m.heap ++ [_]) (el (m.heap ++ [_]) k)
    by_cases w : k < m.heap.length
    ·rw [fX, if_pos w]
     have ob2 := h.ob k w
     exact ⟨ob2.c, ob2.len, ob2.nm, fun i hi => (ob2.v i hi).le l⟩
    ·rw [show k = m.heap.length by omega, e0]
     refine ⟨hcl, by simp [jL], fun i hi => ?_, fun i hi => ?_⟩
     ·replace hi : i < (jL u.cl x.cls).length := hi
      unfold jL at hi ⊢
      rw [List.length_map] at hi
      rw [cQ hi]; rfl
     ·replace hi : i < (jL u.cl x.cls).length := hi
      show tF u _ (el (jL u.cl x.cls) i).v _
      unfold jL at hi ⊢
      rw [List.length_map] at hi
      rw [cQ hi]
      exact qF zH
   ·show (m.heap.length : Int) < ((m.heap ++ [(⟨x.cls, jL u.cl x.cls, zK⟩ : nW)]).length : Nat)
    rw [List.length_append, List.length_singleton]; omega
   ·show ((wJ u m : Nat) : Int) < bH u.fns
    have := hsite q6
    omega
   ·unfold JU
    show x.cls ∈ aA u.cl (el (m.heap ++ [(⟨x.cls, jL u.cl x.cls, zK⟩ : nW)]) ((m.heap.length : Int)).toNat).cls
    rw [Int.toNat_natCast, e0]
    exact hsup
theorem GW {m m2 : DM} {x : bJ} {r : Int} {k : Nat} (hs : MV u m x r m2) : (m2.bo = m.bo ∧ m2.end_ = m.end_ ∧ m2.i0 = m.i0) ∧ (r = 0 → Bd m k → Bd m2 (k + 1)) := by
 have t0 : ∀ {m' : DM} {f : vL}, Bd m' k → Bd (sw m' f) (k + 1) := fun b => ⟨b.fe, by have := b.hp; show (sw _ _).heap.length ≤ k + 1; exact Nat.le_succ_of_le this, ⟨b.n.1, by have := b.n.2; show (sw _ _).n ≤ _; exact Int.le_trans this om⟩⟩
 have b1 : Bd m k → Bd m (k + 1) := fun b => ⟨b.fe, Nat.le_succ_of_le b.hp, b.n.1, Int.le_trans b.n.2 om⟩
 rcases hs with ⟨q, rfl, rfl⟩ | ⟨q, rfl, rfl⟩ | ⟨q, hs⟩ | ⟨q, hs⟩ | ⟨q, hs⟩ | ⟨q, hs⟩ | ⟨q, hs⟩ | ⟨q, rfl, hs⟩
 ·exact ⟨⟨rfl, rfl, rfl⟩, fun _ b => t0 b⟩
 ·exact ⟨⟨rfl, rfl, rfl⟩, fun _ b => t0 b⟩
 ·rcases hs with ⟨_, rfl, rfl⟩ | ⟨hk, rfl, ⟨q7, rfl⟩ | ⟨q8, rfl⟩⟩
  ·exact ⟨⟨rfl, rfl, rfl⟩, fun _ b => b1 b⟩
  ·exact ⟨⟨rfl, rfl, rfl⟩, fun _ b => t0 b⟩
  ·refine ⟨⟨rfl, rfl, rfl⟩, fun _ b => ⟨b.fe, ?_, (b1 b).n⟩⟩
   show (List.set _ _ _).length ≤ _
   rw [List.length_set]; exact (b1 b).hp
 ·rcases hs with ⟨rfl, _⟩ | ⟨rfl, _, _, lS, iK, rfl⟩
  ·exact ⟨⟨rfl, rfl, rfl⟩, fun _ b => b1 b⟩
  ·refine ⟨⟨rfl, rfl, rfl⟩, fun _ b => ⟨b.fe, (b1 b).hp, ?_⟩⟩
   have := b.n
   show (0 : Int) ≤ m.n + 1 ∧ m.n + 1 ≤ ((k + 1 : Nat) : Int)
   omega
 ·rcases hs with ⟨_, rfl, rfl⟩ | ⟨_, rfl, rfl⟩
  ·exact ⟨⟨rfl, rfl, rfl⟩, fun w => by cases w⟩
  ·unfold Pg
   by_cases z : zC u (bz m) = -1
   ·rw [if_pos z]; exact ⟨⟨rfl, rfl, rfl⟩, fun _ b => t0 (m' := bz m) ⟨b.fe, b.hp, b.n⟩⟩
   ·rw [if_neg z]; exact ⟨⟨rfl, rfl, rfl⟩, fun _ b => t0 (m' := bz m) ⟨b.fe, b.hp, b.n⟩⟩
 ·rcases hs with ⟨_, rfl, rfl⟩ | ⟨_, ⟨rfl, h1, h2, h3⟩ | ⟨rfl, j, _, _, _, rfl⟩⟩
  ·exact ⟨⟨rfl, rfl, rfl⟩, fun _ b => b1 b⟩
  ·exact ⟨⟨h1, h2, h3⟩, fun w => by cases w⟩
  ·exact ⟨⟨rfl, rfl, rfl⟩, fun _ b => t0 (m' := tg m j) ⟨b.fe, b.hp, b.n⟩⟩
 ·rcases hs with ⟨_, rfl, rfl⟩ | ⟨rfl, h1, h2, h3⟩ | ⟨rfl, j, _, _, _, rfl⟩
  ·exact ⟨⟨rfl, rfl, rfl⟩, fun _ b => t0 b⟩
  ·exact ⟨⟨h1, h2, h3⟩, fun w => by cases w⟩
  ·exact ⟨⟨rfl, rfl, rfl⟩, fun _ b => t0 (m' := tg m j) ⟨b.fe, b.hp, b.n⟩⟩
 ·rcases hs with ⟨l, v, hl, hv, rfl⟩ | ⟨q3, rfl⟩ | ⟨q6, zK, bV, rfl⟩
  ·exact ⟨⟨rfl, rfl, rfl⟩, fun _ b => t0 (m' := EV m l) ⟨Nat.le_trans hl b.fe, b.hp, b.n⟩⟩
  ·exact ⟨⟨rfl, rfl, rfl⟩, fun _ b => t0 b⟩
  ·refine ⟨⟨rfl, rfl, rfl⟩, fun _ b => ⟨b.fe, ?_, (b1 b).n⟩⟩
   show (m.heap ++ [_]).length ≤ _
   rw [List.length_append, List.length_singleton]
   exact Nat.succ_le_succ b.hp
end
structure rU where
 end_ : Int
 bo : List uw
def Kc (x : rU) : List PV := [.int .i64 x.end_, pL 5 nA x.bo]
structure AE (u : aK) (o : uw) : Prop where
 f0 : 0 ≤ o.fn
 f1 : o.fn < u.fns.length
 i0 : 0 ≤ o.ins
 i1 : o.ins < (el u.fns o.fn.toNat).code.length
 vl : o.bg.length = (el u.fns o.fn.toNat).vars.length
 st : ∀ i, i < o.bg.length → (el o.bg i).kind = 3 → 0 ≤ (el o.bg i).site ∧ (el o.bg i).site < bH u.fns
def Kd (m : DM) : uw := ⟨(el m.aD (m.aD.length - 1)).fn, (el m.aD (m.aD.length - 1)).at_, (el m.aD (m.aD.length - 1)).no, (el m.aD (m.aD.length - 1)).call, (el m.aD (m.aD.length - 1)).bg⟩
def sV (m : DM) (bp : Option Nat) : DM := {m with bp := bp, bo := m.bo ++ [Kd m]}
def wq (m : DM) (e : Int) : DM := {m with end_ := e}
theorem WT.bo {u : aK} {m : DM} (h : WT u m) : AE u (Kd m) := by
 have f := h.fr (m.aD.length - 1) (by have := h.ne; omega)
 exact ⟨f.f0, f.f1, f.a0, f.a1, f.vl, fun i hi hk => by
  obtain ⟨r, _⟩ := f.v i hi hk
  exact ⟨r.s0, r.s1⟩⟩
theorem WT.sV {u : aK} {m : DM} (h : WT u m) (bp : Option Nat) : WT u (sV m bp) := ⟨h.ne, h.fr, h.ln, h.ob⟩
theorem WT.wq {u : aK} {m : DM} (h : WT u m) (e : Int) : WT u (wq m e) := ⟨h.ne, h.fr, h.ln, h.ob⟩
theorem MC.wq {u : aK} {m : DM} {S : aX} (h : MC u m S) (e : Int) : MC u (wq m e) ((1000, some m.i0, .cells (rM u (wq m e))) :: S) := h.cell rfl ⟨rfl, rfl⟩ ⟨rfl, rfl⟩ ⟨rfl, rfl⟩
def pJ (i0 : Nat) (fe : List Int) : DM := ⟨i0, fe, none, [], none, [], 0, 0, none, []⟩
theorem Ke {u : aK} (uo : wG u) {i0 : Nat} {fe : List Int} {lS iK : Option Nat} : WT u (pH (pJ i0 fe) (sx (pJ i0 fe) u.main [] (el u.fns u.main.toNat).vars.length lS) iK) := by
 have m0 := uo.m0
 have m1 := uo.m1
 have fo := uo.at m0 m1
 have f0 : kI u [] (sx (pJ i0 fe) u.main [] (el u.fns u.main.toNat).vars.length lS) := by
  refine ⟨m0, m1, iS, by show (0 : Int) ≤ 0; omega, by show (0 : Int) < ((el u.fns u.main.toNat).code.length : Int); have := fo.ne; omega, fun i hi => ?_, fun w => ?_⟩
  ·replace hi : i < (tH ([] : List dC) (el u.fns u.main.toNat).vars.length).length := hi
   rw [iS] at hi
   show tF u [] (el (tH _ _) i) (el (el u.fns u.main.toNat).vars i).ly
   rw [xQ hi, B5 (by simp)]
   exact qF (by show (0 : Int) ≠ 3; decide)
  ·exact absurd (Or.inr (Or.inr ⟨rfl, w⟩)) (xL (fo.ins 0 fo.ne)).2.2.1
 refine ⟨by show 0 < 1; omega, fun k hk => ?_, fun k hk => ?_, fun k hk => ?_⟩
 ·replace hk : k < 1 := hk
  obtain rfl : k = 0 := by omega
  exact f0
 ·replace hk : k + 1 < 1 := hk
  omega
 ·replace hk : k < 0 := hk
  omega
abbrev Ht (u : aK) (b : Nat) (fe : List Int) : aX := [(1000, some b, .cells (rM u (pJ b fe))), (1001, none, .arr 2 0 fun i => Fb i (el [] i)), (1002, none, .arr 8 0 fun i => fU i (el [] i)), (1003, none, aL 5 nA [])]
theorem D0 {u : aK} {b : Nat} {fe : List Int} : MS u (pJ b fe) (Ht u b fe) := by
 have h0 : ig [] := fun p _ => rfl
 refine ⟨(((h0.cons om).cons om).cons om).cons om, ⟨rfl, rfl, rfl, rfl, fun k hk => ?_, fun k hk => ?_⟩⟩
 ·replace hk : k < 0 := hk
  omega
 ·replace hk : k < 0 := hk
  omega
theorem Kf {u : aK} {fe : List Int} {nt : Nat} {x : SC} {G G' : aZ} {Q : Ex → aZ → aX → Prop} {b : Nat} {y z : Option Nat × PB} {R : List PV} (hG : kP [] G G') (hR : R = [pL 4 ia u.cl, pL 7 lA u.fns, .int .i64 u.main, pL 1 pI fe, .aO, .aO, .int .i64 0, .int .i64 0, .aO]) (w : PC Tryz.prog X0 Mx nt x G' ((3, y) :: (6, z) :: Ht u b fe) Q) : PC Tryz.prog X0 Mx nt x G [(37, some b, .cells R), (6, z), (3, y)] Q := by
 subst hR
 refine tn (Z := []) (r := fun p => if p = 1000 then 37 else p) hG ⟨fun q x e => (by cases e), fun p id d e hd => ⟨rfl, ?_⟩, fun p q id c d e1 e2 hc hd hr => ?_⟩ w
 ·simp only [aw] at e ⊢
  by_cases q3 : 3 = p
  ·subst q3; simp at e ⊢; exact ⟨d, e, .refl _⟩
  rw [if_neg q3] at e
  by_cases q6 : 6 = p
  ·subst q6; simp at e ⊢; exact ⟨d, e, .refl _⟩
  rw [if_neg q6] at e
  by_cases q0 : 1000 = p
  ·subst q0; simp at e ⊢
   obtain ⟨rfl, rfl⟩ := e
   exact ⟨_, ⟨rfl, rfl⟩, .cells _ _ (.cons _ _ _ _ (.refl _) (.cons _ _ _ _ (.refl _) (.cons _ _ _ _ (.refl _) (.cons _ _ _ _ (.refl _) (.cons _ _ _ _ (.vO _ _) (.cons _ _ _ _ (.vO _ _) (.cons _ _ _ _ (.refl _) (.cons _ _ _ _ (.refl _) (.cons _ _ _ _ (.vO _ _) .nil)))))))))⟩
  rw [if_neg q0] at e
  exfalso
  by_cases q1 : 1001 = p
  ·subst q1; simp at e
  rw [if_neg q1] at e
  by_cases q2 : 1002 = p
  ·subst q2; simp at e
  rw [if_neg q2] at e
  by_cases q4 : 1003 = p
  ·subst q4; simp at e
  rw [if_neg q4] at e
  cases e
 ·have w : ∀ p c, aI ((3, y) :: (6, z) :: Ht u b fe) p = some (some id, c) → p = 3 ∨ p = 6 ∨ p = 1000 := fun p c e => by
    simp only [aw] at e
    by_cases q3 : 3 = p
    ·exact Or.inl q3.symm
    rw [if_neg q3] at e
    by_cases q6 : 6 = p
    ·exact Or.inr (Or.inl q6.symm)
    rw [if_neg q6] at e
    by_cases q0 : 1000 = p
    ·exact Or.inr (Or.inr q0.symm)
    rw [if_neg q0] at e
    exfalso
    by_cases q1 : 1001 = p
    ·subst q1; simp at e
    rw [if_neg q1] at e
    by_cases q2 : 1002 = p
    ·subst q2; simp at e
    rw [if_neg q2] at e
    by_cases q4 : 1003 = p
    ·subst q4; simp at e
    rw [if_neg q4] at e
    cases e
  rcases w p c e1 with rfl | rfl | rfl <;> rcases w q d e2 with rfl | rfl | rfl <;> first | rfl | (simp at hr)
theorem Nc {a b : Nat} {x y : Option Nat × PB} {S : aX} (h : a ≠ b) : c8 ((a, x) :: (b, y) :: S) ((b, y) :: (a, x) :: S) := fun p id d e hd => by
 refine ⟨d, ?_, .refl _⟩
 rw [aw, aw] at e ⊢
 by_cases q : a = p
 ·rw [if_pos q]
  rw [if_neg (by omega), if_pos q] at e
  exact e
 ·rw [if_neg q]
  rw [if_neg q] at e
  exact e
theorem Nf {u : aK} {m : DM} {nt : Nat} {x : SC} {G G' : aZ} {S : aX} {Q : Ex → aZ → aX → Prop} {bp o84 : Option Nat} {x6 y91 y84 : Option Nat × PB} {R r84 : Nat → List PV} (h : MS u m S) (hG : kP [(84, o84, .arr 3 (el m.aD (m.aD.length - 1)).bg.length r84)] G G') (hR : R 0 = [.int .i64 (el m.aD (m.aD.length - 1)).fn, .int .i64 (el m.aD (m.aD.length - 1)).at_, .int .i64 (el m.aD (m.aD.length - 1)).no, .int .i64 (el m.aD (m.aD.length - 1)).call, .own 84 o84 (el m.aD (m.aD.length - 1)).bg.length 3]) (h84 : r84 = fun j => dd (el (el m.aD (m.aD.length - 1)).bg j)) (w : PC Tryz.prog X0 Mx nt x G' ((6, x6) :: (1000, some m.i0, .cells (rM u (sV m bp))) :: (1003, bp, aL 5 nA (m.bo ++ [Kd m])) :: S) Q) : PC Tryz.prog X0 Mx nt x G ((1000, some m.i0, .cells (uB 8 (PV.own 1003 bp (m.bo.length + 1) 5).cells (rM u m))) :: (1003, bp, .arr 5 (m.bo.length + 1) (lL m.bo.length (fun i => nA (el m.bo i)) R)) :: (91, y91) :: (84, o84, .arr 3 (el m.aD (m.aD.length - 1)).bg.length r84) :: (84, y84) :: (6, x6) :: S) Q := by
 refine tn (r := fun p => p) hG ⟨fun q x e => ?_, fun p id d e hd => ?_, fun p q _ _ _ _ _ _ _ e => e⟩ w
 ·rw [aw] at e
  by_cases hq : 84 = q
  ·rw [if_pos hq] at e; cases e; subst hq; rfl
  ·rw [if_neg hq] at e; cases e
 ·simp only [aw] at e ⊢
  by_cases q6 : 6 = p
  ·subst q6; simp at e ⊢; exact ⟨rfl, d, e, .refl _⟩
  rw [if_neg q6] at e
  by_cases q0 : 1000 = p
  ·subst q0; simp at e ⊢
   obtain ⟨rfl, rfl⟩ := e
   refine ⟨rfl, _, ⟨rfl, rfl⟩, .cells _ _ (c5.of_eq ?_)⟩
   unfold rM sV
   simp only [List.length_append, List.length_singleton]
   rfl
  rw [if_neg q0] at e
  by_cases q3 : 1003 = p
  ·subst q3; simp at e ⊢
   obtain ⟨rfl, rfl⟩ := e
   refine ⟨rfl, _, ⟨rfl, rfl⟩, ?_⟩
   show wR _ _ (PB.arr 5 (m.bo ++ [Kd m]).length fun i => nA (el (m.bo ++ [Kd m]) i))
   rw [List.length_append, List.length_singleton]
   refine .arr _ _ _ _ _ (Nat.le_refl _) fun i hi => ?_
   unfold lL
   rw [fX]
   by_cases q2 : i < m.bo.length
   ·rw [if_pos q2, if_pos q2]; exact c5.refl _
   ·obtain rfl : i = m.bo.length := by omega
    rw [if_neg q2, if_neg q2, Nat.sub_self, hR]
    refine .cons _ _ _ _ (.refl _) (.cons _ _ _ _ (.refl _) (.cons _ _ _ _ (.refl _) (.cons _ _ _ _ (.refl _) (.cons _ _ _ _ ?_ .nil))))
    refine .own _ _ _ _ _ _ _ (by rw [aw, if_pos rfl]) (Nat.le_refl _) fun j _ => ?_
    rw [h84]; exact c5.refl _
  rw [if_neg q3] at e
  have hp : ¬ p < 1000 := fun w => by rw [h.low p w] at e; cases e
  simp only [if_neg q0, if_neg q3, if_neg (show ¬ 91 = p by omega), if_neg (show ¬ 84 = p by omega), if_neg q6]
  exact ⟨rfl, d, e, .refl _⟩
end Go.Proofs.YtgaihilgffficaaGreatDoor.Ev
