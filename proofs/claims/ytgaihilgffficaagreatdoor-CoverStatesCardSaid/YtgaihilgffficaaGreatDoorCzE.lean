/- CoverStates, part 41 -/
import Derived.Test.YtgaihilgffficaaGreatDoorCzA
import Derived.Test.YtgaihilgffficaaGreatDoorShelf
import Derived.Lib.Bytealg
set_option linter.all false
namespace Go.Proofs.YtgaihilgffficaaGreatDoor.Ev
section
open Go Go.RowKit Go.Proofs Go.Sort Go.Shelf
variable [Gb]
set_option maxHeartbeats 1000000 in
theorem AW (F : Fence) (n : Nat) (h8 : F.fn 57) (h11 : F.fn 114) (hro : F.round = none) (hn : 3 ≤ n) (g : Nat) (lb : Array Value) (hFg : F.fn g) (eg : ∀ args w, (callFunc g args).run Tryz.prog w = .ok (.enter g args) w)
    (S : List Ky → Prop) (N : Nat) (hN : N ≤ maxLen) (hNb : N * 24 ≤ 140737488355328) (w : World) (hseq : C1 F (n - 1 - 1) Tryz.prog g lb S N w) :
    CallsIn F n Tryz.prog 57 #[.func (.func g) #[] lb] w fun e w' => ∃ (v : Value) (ss : List Ky), e = .returned v ∧ S ss ∧ w'.ownsRow w.heap.size 44 3 v ss.length (ss.flatMap jR) ∧ (v = .slice none 0 0 ↔ ss = []) ∧ Below w.heap.size w w' ∧ w.drawn ≤ w'.drawn := by
 have h1 : 1 ≤ n := by omega
 have e11 : ∀ args w, (callFunc 114 args).run Tryz.prog w = .ok (.enter 114 args) w := enters_of Tryz.func114 dc rfl
 refine callsIn_of_wp Tryz.func57 rfl h8 ?_ hro
 simp only [Tryz.ntmps57, List.size_toArray, List.length_cons, List.length_nil, Nat.reduceAdd, Nat.reduceSub, Array.replicate_succ, Array.replicate_zero, List.push_toArray, List.append_toArray, List.nil_append, List.cons_append]
 gi_wp2_with (gi_at_call 114; refine (wx F (n - 1) h11 hro om g lb hFg eg S N hN hNb _ hseq).mono ?_; rintro e w' ⟨v, ss, rfl, hS, hrow, hnil, hb, hd⟩)
 go_ret
 exact ⟨v, ss, rfl, hS, hrow, hnil, hb, hd⟩
def HK (cf : Nat) : Prop := ∀ (x y : Ky) (w : World), Calls Tryz.prog cf #[jS x, jS y] w fun e w' => e = .returned (.int .i64 (if rX x y = true then -1 else if rX y x = true then 1 else 0)) ∧ Below w.heap.size w w' ∧ w.drawn ≤ w'.drawn
def Mr (x y : Ky) : Int := if rX x y = true then -1 else if rX y x = true then 1 else 0
theorem yL : ltOf Mr = rX := by
 funext x y
 unfold ltOf Mr
 cases h : rX x y with
 | true => simp
 | false => cases h2 : rX y x <;> simp
theorem Rr : SWO rX := by
 refine ⟨fun x => ?_, fun x y z h1 h2 => ?_, fun x y z h1 h2 => ?_⟩
 ·cases h : rX x x with
  | false => rfl
  | true => rw [dU] at h; omega
 ·rw [dU] at *; omega
 ·cases h : rX x z with
  | false => rfl
  | true =>
   have n1 : ¬ rX x y = true := by rw [h1]; simp
   have n2 : ¬ rX y z = true := by rw [h2]; simp
   rw [dU] at h n1 n2
   omega
theorem Ku {w w' : World} (hb : Below w.heap.size w w') (hd : w.drawn ≤ w'.drawn) : ∃ q os, w' = grow (w.drewN q) os := by
 refine ⟨w'.drawn - w.drawn, w'.heap.extract w.heap.size w'.heap.size, ?_⟩
 obtain ⟨h1, h2, h3, h4, h5⟩ := hb
 have e1 : w'.heap = w.heap ++ w'.heap.extract w.heap.size w'.heap.size := by
  apply Array.ext_getElem?
  intro i
  rw [Array.getElem?_append]
  split
  ·rename_i hi
   exact h5 i hi
  ·rename_i hi
   rw [Array.getElem?_extract]
   by_cases q : i < w'.heap.size
   ·rw [if_pos (by omega), show w.heap.size + (i - w.heap.size) = i by omega]
   ·rw [if_neg (by omega), Array.getElem?_eq_none (by omega)]
 have e2 : w'.drawn = w.drawn + (w'.drawn - w.drawn) := by omega
 cases w'
 cases w
 simp only [grow, World.drewN] at *
 subst h1 h2 h3
 rw [World.mk.injEq]
 exact ⟨e1, rfl, e2, rfl, rfl⟩
theorem HL {cf : Nat} (hc : HK cf) (cm off size : Nat) (w : World) : CmpLays Tryz.prog cf #[] jR 3 Mr cm off size w := fun m os dk _ x y =>
 (hc x y _).mono fun e w' ⟨h1, h2, h3⟩ => ⟨h1, Ku h2 h3⟩
theorem uH {a b : List Ky} (h : a.Perm b) : fN a = fN b :=
 (((List.mergeSort_perm a BZ).trans h).trans (List.mergeSort_perm b BZ).symm).eq_of_pairwise (le := fun x y => BZ x y = true) (fun x y _ _ q w => AX q w) (List.pairwise_mergeSort qY qZ a) (List.pairwise_mergeSort qY qZ b)
theorem HM (l : List Ky) : (l.mergeSort fun x y => !(ltOf Mr) y x) = fN l := by
 rw [yL]; rfl
theorem ra (l : List Ky) : (fN l).length = l.length := List.length_mergeSort l
theorem uI (x : Ky) : (jR x).length = 3 := rfl
set_option maxHeartbeats 2000000 in
theorem Kv {cf : Nat} (hc : HK cf) (ec : ∀ args w, (callFunc cf args).run Tryz.prog w = .ok (.enter cf args) w) (w : World) (Bm ob b clock : Nat) (es : Array MapEntry) (ks : List Ky) (hm : w.cell? ⟨Bm, ob, none⟩ = some (.map (some b))) (hb : w.heap[b]? = some (.map es clock))
    (hk : es.toList.map (·.key) = ks.map jS) (hbn : ∀ x ∈ es.toList, x.born < clock) (hnd : (es.toList.map (·.born)).Nodup) (hl : ks.length < 1000000) :
    Calls Tryz.prog 23 #[.func (.func 59) #[] #[.pointer (some ⟨Bm, ob, none⟩)], .func (.func cf) #[] #[]] w fun e w' =>
     ∃ v, e = .returned v ∧ w'.ownsRow w.heap.size 44 3 v ks.length ((fN ks).flatMap jR) ∧ (v = .slice none 0 0 ↔ ks = []) ∧ Below w.heap.size w w' ∧ w.drawn ≤ w'.drawn := by
 have hlen : es.size = ks.length := by
  have := congrArg List.length hk
  simpa using this
 have ek : ∀ args w, (callFunc 59 args).run Tryz.prog w = .ok (.enter 59 args) w := enters_of Tryz.func59 dc rfl
 have e57 : ∀ args w, (callFunc 57 args).run Tryz.prog w = .ok (.enter 57 args) w := enters_of Tryz.func57 dc rfl
 have e58 : ∀ args w, (callFunc 58 args).run Tryz.prog w = .ok (.enter 58 args) w := enters_of Tryz.func58 dc rfl
 have hmx : maxLen = 9223372036854775807 := by decide
 have hBm : Bm < w.heap.size := World.block_lt_of_cell? w _ hm
 have hbl : b < w.heap.size := (Array.getElem?_eq_some_iff.1 hb).1
 have hseq : C1 (W none) (5 - 1 - 1 - 1) Tryz.prog 59 #[.pointer (some ⟨Bm, ob, none⟩)] (fun ss => ss.Perm ks) es.size w := fun l J W1 hW hJ hY h0 =>
  HJ (W none) _ trivial rfl om l Bm ob b clock es ks J hY W1 hJ ((hW.cell (p := ⟨Bm, ob, none⟩) hBm).trans hm) ((hW.block b hbl).trans hb) hk hbn hnd h0
 refine (ko (r := none) (n := 5)).1 ?_
 have hW : ∀ (n : Nat) {f : FuncId} {args : Array Value} {w : World} {R : Ending → World → Prop}, Calls Tryz.prog f args w R → CallsIn (W none) n Tryz.prog f args w R := fun n {_ _ _ _} q => ko.2 q
 have hcol := AW (W none) (5 - 1) trivial trivial rfl om 59 #[.pointer (some ⟨Bm, ob, none⟩)] trivial ek (fun ss => ss.Perm ks) es.size om om w hseq
 have hro : (W none).round = none := rfl
 have hF : ∀ f, (W none).fn f := fun _ => trivial
 clear hseq
 revert hW hcol hro hF
 generalize W none = F
 intro hW hcol hro hF
 have h57 := hF 57
 have h58 := hF 58
 have h5 : 1 ≤ 5 := by omega
 refine callsIn_of_wp Tryz.func23 rfl (hF _) ?_ hro
 simp only [Tryz.ntmps23, List.size_toArray, List.length_cons, List.length_nil, Nat.reduceAdd, Nat.reduceSub, Array.replicate_succ, Array.replicate_zero, List.push_toArray, List.append_toArray, List.nil_append, List.cons_append]
 gi_wp2_with (gi_at_call 57; refine hcol.mono ?_; rintro e W1 ⟨v, ss, rfl, hS, hrow, hnil, hb', hd⟩)
 rcases hrow.2 with ⟨rfl, hz⟩ | ⟨gb, cap, cur, rfl, hbase, hgb, r1, r2, r3, r4⟩
 ·have hss : ss = [] := List.eq_nil_of_length_eq_zero hz
  subst hss
  have hks : ks = [] := hS.symm.eq_nil
  subst hks
  have cS : Calls Tryz.prog 58 #[.slice none 0 0, .func (.func cf) #[] #[]] W1 fun e w' => e = .returned (.tuple #[]) ∧ w' = W1 := AnyF.slices_SortFunc_none Tryz.laysF6 none 0 _ W1
  refine (hW 4 cS).mono ?_
  rintro e w' ⟨rfl, rfl⟩
  gi_wp2
  go_ret
  have hs0 : fN ([] : List Ky) = [] := List.eq_nil_of_length_eq_zero (ra [])
  exact ⟨.slice none 0 0, rfl, by rw [hs0]; exact hrow, by simp, hb', hd⟩
 ·have hgl : gb < W1.heap.size := (Array.getElem?_eq_some_iff.1 hgb).1
  have hsl : ss.length = ks.length := hS.length_eq
  have cS : Calls Tryz.prog 58 #[.slice (some ⟨gb, 0, none⟩) ss.length cap, .func (.func cf) #[] #[]] W1 fun e w' => e = .returned (.tuple #[]) ∧ ∃ n os, w' = sortWorldK jR 3 W1 gb 0 n (fN ss).toArray os := by
   have := AnyQ.slices_SortFunc_total Tryz.laysF6 3 Tryz.isAgg44 Tryz.sizeOf44 jR uI AU Mr (by rw [yL]; exact Rr) cf #[] gb 0 cap ss.toArray W1 ec (HL hc _ _ _ _) (Fq uI hgb r4) hgl (by simp; omega) (fun x y h1 h2 => by
    rw [yL] at h1 h2
    have n1 : ¬ rX x y = true := by rw [h1]; simp
    have n2 : ¬ rX y x = true := by rw [h2]; simp
    rw [dU] at n1 n2
    obtain ⟨x1, x2, x3⟩ := x
    obtain ⟨y1, y2, y3⟩ := y
    simp only at n1 n2
    have e1 : x1 = y1 := by omega
    have e2 : x2 = y2 := by omega
    have e3 : x3 = y3 := by omega
    rw [e1, e2, e3])
   rw [List.size_toArray, List.toList_toArray, HM] at this
   exact this
  refine (hW 4 cS).mono ?_
  rintro e w' ⟨rfl, nn, os, rfl⟩
  have hg2 := s9 (enc := jR) (k := 3) (w := W1) (g := gb) (n := nn) (os := os) (fN ss).toArray
  have hd2 : W1.drawn ≤ (sortWorldK jR 3 W1 gb 0 nn (fN ss).toArray os).drawn := Nat.le_add_right _ _
  have hrow2 := ta (l := ss) uI (n := nn) (os := os) (ts := fN ss) (ra ss) hbase hgb r1 r2 r3
  have hb2 := hb'.grown hg2 hb'.size (fun j hj => by cases hj; exact hbase)
  gi_wp2
  go_ret
  rw [uH hS, hsl] at hrow2
  refine ⟨_, rfl, ?_, ⟨fun q => (by cases q), fun q => ?_⟩, ?_, ?_⟩
  ·rw [uH hS]; exact hrow2
  ·have := hnil.2 (List.eq_nil_of_length_eq_zero (by rw [hsl, q]; rfl))
   cases this
  ·exact hb2
  ·omega
end
section
open Go Go.RowKit Go.Proofs
variable {dr : Prop}
theorem Ft {f n : Nat} {β : cn} {g g' : View} {w w' : World} {b : AB} {L : Loc} (h : HR f β g w) (hn : β n = none)
    (hblk : w.heap.size ≤ L.cm) (hlt : L.cm < w'.heap.size) (hw : ∀ B, B < w.heap.size → w'.heap[B]? = w.heap[B]?) (hos : w'.os = w.os) (htp : w'.tape = w.tape ∧ (dr → w.drawn ≤ w'.drawn)) (hout : w'.output = w.output)
    (hb : BR (nK β n L) L w' b) (hg : ∀ id d, g' id = some d → (id = n ∧ d = b) ∨ (id ≠ n ∧ g id = some d)) :
    cI dr f n (n + 1) β g w (nK β n L) g' w' := by
 refine ⟨om, gg L hn, fun id M h1 h2 => ?_, ⟨fun id d e => ?_, fun i j d e M N h1 h2 h3 h4 h5 => ?_⟩, hos, htp, hout, om, fun B hB _ => hw B hB, fun id M h1 h2 => ?_, fun id d e => ?_⟩
 ·by_cases x : id = n
  ·omega
  ·rw [bS x, h2] at h1; cases h1
 ·rcases hg id d e with ⟨rfl, rfl⟩ | ⟨x, e⟩
  ·exact ⟨L, bM _ _ _, om, hb⟩
  ·obtain ⟨M, h1, h2, h3⟩ := h.at_ id d e
   exact ⟨M, by rw [bS x]; exact h1, om, h3.mono (gg L hn) (hw _ h2)⟩
 ·have jG : ∀ i d M, i ≠ n → g i = some d → nK β n L i = some M → M.cm < w.heap.size := fun i d M x e1 e2 => by
    rw [bS x] at e2
    obtain ⟨M', h1, h2, _⟩ := h.at_ i d e1
    rw [h1] at e2; cases e2; exact h2
  rcases hg i d h1 with ⟨rfl, rfl⟩ | ⟨x, e1⟩ <;> rcases hg j e h2 with ⟨rfl, rfl⟩ | ⟨y, e2⟩
  ·exact Or.inl rfl
  ·have := jG j e N y e2 h4
   rw [bM] at h3; cases h3; omega
  ·have := jG i d M x e1 h3
   rw [bM] at h4; cases h4; omega
  ·rw [bS x] at h3; rw [bS y] at h4
   exact h.inj i j d e M N e1 e2 h3 h4 h5
 ·by_cases x : id = n
  ·subst x; rw [bM] at h1; cases h1; exact Or.inl hblk
  ·rw [bS x, h2] at h1; cases h1
 ·rcases hg id d e with ⟨rfl, rfl⟩ | ⟨_, e⟩
  ·exact Or.inr hn
  ·exact Or.inl ⟨d, e⟩
theorem kT {f n : Nat} {β : cn} {g : View} {w w' : World} (hr : HR f β g w) (hb : Below w.heap.size w w') (hd : dr → w.drawn ≤ w'.drawn) : cI dr f n n β g w β g w' := by
 refine ⟨Nat.le_refl _, Sub.refl _, fun id L q1 q2 => by (rw [q2] at q1; cases q1), ⟨fun id b q => ?_, hr.inj⟩, hb.os, ⟨hb.tape, hd⟩, hb.output, hb.size, fun B hB _ => hb.block B hB, fun id L q1 q2 => by (rw [q2] at q1; cases q1), fun id b q => Or.inl ⟨b, q⟩⟩
 obtain ⟨L, q1, q2, q3⟩ := hr.at_ id b q
 exact ⟨L, q1, Nat.lt_of_lt_of_le q2 hb.size, q3.mono (Sub.refl _) (hb.block _ q2)⟩
theorem rY : ∀ {l : List (AV × AV × Nat)} {ks : List Ky}, oI l = some ks → l.map Prod.fst = ks.map C4
 | [], ks, h => by simp only [oI, Option.some.injEq] at h; subst h; rfl
 | x :: l, ks, h => by
  unfold oI at h
  split at h
  ·rename_i q; cases q
  ·rename_i a b c z l' hl
   rw [Option.map_eq_some_iff] at h
   obtain ⟨ks', h1, rfl⟩ := h
   cases hl
   rw [List.map_cons, List.map_cons, rY h1]
   rfl
  ·cases h
theorem D9 {β : cn} : ∀ {es : List (AV × AV × Nat)} {ces : List MapEntry} {ks : List Ky}, ER β es ces → es.map Prod.fst = ks.map C4 → ces.map (·.key) = ks.map jS ∧ ces.map (·.born) = es.map fun p => p.2.2
 | [], ces, ks, h, e => by
  have : ces = [] := h
  subst this
  have : ks = [] := by simpa using e.symm
  subst this
  exact ⟨rfl, rfl⟩
 | x :: es, ces, ks, h, e => by
  obtain ⟨c0, ces', rfl, h1, h2, h3, h4⟩ := h
  cases ks with
  | nil => simp at e
  | cons k ks =>
   rw [List.map_cons, List.map_cons, List.cons.injEq] at e
   obtain ⟨i1, i2⟩ := D9 h4 e.2
   rw [e.1] at h1
   have hk : c0.key = jS k := by
    simp only [C4, VR, bE] at h1
    obtain ⟨cs, q, _, _, q1, rfl, _, _, rfl, rfl, _, _, rfl, rfl, rfl⟩ := h1
    rw [q]
    have : cs = #[.int .i64 k.1, .int .i64 k.2.1, .int .i64 k.2.2] := Array.ext' q1
    rw [this]
   exact ⟨by rw [List.map_cons, List.map_cons, hk, i1], by rw [List.map_cons, List.map_cons, h3, i2]⟩
variable [Gb]
theorem AZ {β : cn} : ∀ (ks : List Ky) (i : Nat) (v : AV), (ks.flatMap nR)[i]? = some v → ∃ c, (ks.flatMap jR)[i]? = some c ∧ VR β v c
 | [], i, v, h => by simp at h
 | k :: ks, i, v, h => by
  rw [List.flatMap_cons] at h ⊢
  rcases Nat.lt_or_ge i 3 with q | q
  ·rw [List.getElem?_append_left q] at h
   rw [List.getElem?_append_left q]
   match i, h with
   | 0, h => cases h; exact ⟨_, rfl, by simp [VR]⟩
   | 1, h => cases h; exact ⟨_, rfl, by simp [VR]⟩
   | 2, h => cases h; exact ⟨_, rfl, by simp [VR]⟩
   | i + 3, _ => omega
  ·rw [List.getElem?_append_right q] at h
   rw [List.getElem?_append_right q]
   exact AZ ks (i - 3) v h
theorem C5 {P : Program} {ng sf kf cf tA : Nat} (hfn : ∃ fn, P.funcs[sf]? = some fn ∧ fn.body.isNone = false ∧ (fn.name == "runtime.NumGoroutine") = false)
    (hC : ∀ (w : World) (Bm ob b clock : Nat) (es : Array MapEntry) (ks : List Ky), w.cell? ⟨Bm, ob, none⟩ = some (.map (some b)) → w.heap[b]? = some (.map es clock) → es.toList.map (·.key) = ks.map jS → (∀ x ∈ es.toList, x.born < clock) → (es.toList.map (·.born)).Nodup → ks.length < 1000000 →
     Calls P sf #[.func (.func kf) #[] #[.pointer (some ⟨Bm, ob, none⟩)], .func (.func cf) #[] #[]] w fun e w' => ∃ v, e = .returned v ∧ w'.ownsRow w.heap.size tA 3 v ks.length ((fN ks).flatMap jR) ∧ (v = .slice none 0 0 ↔ ks = []) ∧ Below w.heap.size w w' ∧ w.drawn ≤ w'.drawn) : dG dr P ng (kL sf kf cf) := by
 intro g args c h v h' er hc hw
 unfold kL at er
 cases hg : Nat.beq g sf with
 | false => rw [hg] at er; cases er
 | true =>
  have := Nat.eq_of_beq_eq_true hg
  subst this
  rw [hg, cond_true] at er
  split at er
  ·rename_i k p q
   cases hkq : (Nat.beq k kf && Nat.beq q cf) with
   | false => rw [hkq] at er; cases er
   | true =>
    rw [hkq, cond_true] at er
    rw [Bool.and_eq_true] at hkq
    have e1 := Nat.eq_of_beq_eq_true hkq.1
    have e2 := Nat.eq_of_beq_eq_true hkq.2
    subst e1 e2
    split at er
    ·rename_i m hgp
     split at er
     ·rename_i l ck hgm
      split at er
      ·rename_i ks hks
       generalize hcd : ((decide (l.map fun p => p.2.2).Nodup && l.all fun p => Nat.blt p.2.2 ck) && Nat.blt ks.length 1000000) = bb at er
       cases bb with
       | false => cases er
       | true =>
        rw [cond_true] at er
        rw [Bool.and_eq_true, Bool.and_eq_true] at hcd
        obtain ⟨⟨c1, c2⟩, c3⟩ := hcd
        have c1 := of_decide_eq_true c1
        have c3 : ks.length < 1000000 := by simpa [Nat.blt_eq] using c3
        have hkk := rY hks
        have key : ∀ (β : cn) (w : World) (cargs : List Value), HR c.floor β (view c h) w → bE β [.fn k [.ptr p 0], .fn q []] cargs → Calls P g cargs.toArray w fun e w' => ∃ v, e = .returned v ∧ w'.ownsRow w.heap.size tA 3 v ks.length ((fN ks).flatMap jR) ∧ (v = .slice none 0 0 ↔ ks = []) ∧ Below w.heap.size w w' ∧ w.drawn ≤ w'.drawn := fun β w cargs hr hv => by
         simp only [bE, VR] at hv
         obtain ⟨u1, us, rfl, ⟨cs, rfl, _, _, q1, ⟨Lp, q2, rfl⟩, rfl⟩, u2, us2, rfl, ⟨cs2, rfl, q3⟩, rfl⟩ := hv
         have e3 : cs = #[.pointer (some ⟨Lp.cm, Lp.base + 0, none⟩)] := Array.ext' q1
         have e4 : cs2 = #[] := Array.ext' q3
         subst e3 e4
         obtain ⟨L, l1, l2, l3⟩ := hr.at_ p _ (dB hgp)
         rw [q2] at l1; cases l1
         obtain ⟨cur, e, d1, d2, d3⟩ := l3
         obtain ⟨u, d4, d5⟩ := d3 0 _ rfl
         simp only [VR] at d5
         obtain ⟨Lm, d5, rfl⟩ := d5
         obtain ⟨L', m1, m2, m3⟩ := hr.at_ m _ (je hgm)
         rw [d5] at m1; cases m1
         obtain ⟨ces, m4, m5⟩ := m3
         obtain ⟨n1, n2⟩ := D9 m5 hkk
         refine hC w Lp.cm (Lp.base + 0) Lm.cm ck ces ks ?_ m4 n1 (fun x hx => ?_) (by rw [n2]; exact c1) c3
         ·simp only [World.cell?, d1]
          simpa using d4
         ·have hx2 : x.born ∈ ces.toList.map (·.born) := List.mem_map.2 ⟨x, hx, rfl⟩
          rw [n2] at hx2
          obtain ⟨y, y1, y2⟩ := List.mem_map.1 hx2
          rw [← y2]
          have := List.all_eq_true.1 c2 y y1
          simpa [Nat.blt_eq] using this
        cases ks with
        | nil =>
         simp only [Option.some.injEq, Prod.mk.injEq] at er
         obtain ⟨rfl, rfl⟩ := er
         refine lu.up ⟨Step.refl hw, hfn, fun β w cargs hgb hr hv hfr R hR => ?_⟩
         refine (key β w cargs hr hv).mono fun e w' ⟨v, h1, _, h2, h3, h4⟩ => ?_
         subst h1
         exact hR β v w' (kT hr h3 fun _ => h4) (by simp only [VR]; exact h2.2 rfl)
        | cons k0 ks =>
         simp only [Option.some.injEq, Prod.mk.injEq] at er
         obtain ⟨rfl, rfl⟩ := er
         refine lu.up ⟨dP hw (Nat.lt_succ_self _), hfn, fun β w cargs hgb hr hv hfr R hR => ?_⟩
         refine (key β w cargs hr hv).mono fun e w' ⟨v, h1, h5, h2, h3, h4⟩ => ?_
         subst h1
         rcases h5.2 with ⟨rfl, hz⟩ | ⟨gb, cap, cur, rfl, b1, b2, b3, b4, b5, b6⟩
         ·cases hz
         ·have hn : β h.n = none := hfr h.n (Nat.le_refl _) (Nat.lt_succ_self _)
          have hlen : ((fN (k0 :: ks)).flatMap nR).length = (k0 :: ks).length * 3 := by rw [uJ, ra]
          have hle : (k0 :: ks).length * 3 ≤ cap * 3 := Nat.mul_le_mul_right 3 b3
          have hP : cI dr c.floor h.n (h.n + 1) β (view c h) w (nK β h.n ⟨gb, 0, cur.size, dv⟩) (view c (h.new (.cells ((fN (k0 :: ks)).flatMap nR)))) w' :=
           Ft (b := .cells ((fN (k0 :: ks)).flatMap nR)) hr hn b1 (Array.getElem?_eq_some_iff.1 b2).1 h3.block h3.os ⟨h3.tape, fun _ => h4⟩ h3.output
            ⟨cur, (tA, (0, 0)), b2, ⟨Nat.le_refl _, by rw [hlen]; show 0 + (k0 :: ks).length * 3 ≤ cur.size; omega, fun i _ _ => by simp⟩, fun i v hi => by
             obtain ⟨u, u1, u2⟩ := AZ (β := nK β h.n ⟨gb, 0, cur.size, dv⟩) _ i v hi
             refine ⟨u, ?_, u2⟩
             rw [← b6] at u1
             have hil : i < (k0 :: ks).length * 3 := by
              have := (List.getElem?_eq_some_iff.1 hi).1
              rw [hlen] at this; exact this
             rw [List.getElem?_take_of_lt hil, Array.getElem?_toList] at u1
             rw [Nat.zero_add]; exact u1⟩ (fun id d e => pV (Nat.lt_succ_self _) e)
          refine hR _ _ w' hP ?_
          simp only [VR]
          exact ⟨_, 0, cap, bM _ _ _, rfl, b3, by show 0 + cap * 3 ≤ cur.size; omega, Or.inl rfl, fun c q => by cases q⟩
      ·cases er
     ·cases er
    ·cases er
  ·cases er
end
section
open Go Go.RowKit Go.Proofs
def Fu : List Nat → List Nat → List Nat
 | [], r => r
 | x :: l, r => x :: Fu l r
def uK (sep : List Nat) : List (List Nat) → List Nat
 | [] => []
 | x :: r => match r with
  | [] => x
  | _ :: _ => Fu x (Fu sep (uK sep r))
def rZ : Nat → List AV → Option (List (List Nat))
 | 0, _ => some []
 | n + 1, .str s :: l => match rZ n l with
  | some r => some (s :: r)
  | none => none
 | _ + 1, _ => none
def HP : Nat → List AV → List AV
 | 0, l => l
 | _ + 1, [] => []
 | n + 1, _ :: l => HP n l
def JM (f : Nat) : Mf := fun g args c h => bif Nat.beq g f then match args with
    | [.sl id off n 1 _, .str sep] => match n with
     | 0 => some (.str [], h)
     | n + 1 => match cT c h id with
      | some (.cells vs) => match rZ (n + 1) (HP off vs) with
       | some xs => bif Nat.ble (iG (uK sep xs)) 1000000 && Nat.ble n 1000000 then some (.str (uK sep xs), h) else none
       | none => none
      | _ => none
    | [.aO, .str sep] => some (.str [], h)
    | _ => none
 else none
theorem C6 : isTrue (ev (cC Tryz.prog) (bW Tryz.prog []) (JM 131) 1000000 ⟨6, [(0, jf)]⟩ (.call (.Kx 4) []) ⟨.nil, 6⟩) = true := by kernel_rfl
theorem mixed : Tryz.prog.follows .mixedOrders = true := by kernel_rfl
theorem kS : ∀ (f : Nat) (fn : Func), Tryz.prog.funcs[f]? = some fn → (fn.name == "runtime.NumGoroutine") = false := by
 have h : Tryz.prog.funcs.toList.all (fun fn => !(fn.name == "runtime.NumGoroutine")) = true := by kernel_rfl
 intro f fn hf
 have hm : fn ∈ Tryz.prog.funcs.toList := by
  obtain ⟨hlt, rfl⟩ := Array.getElem?_eq_some_iff.1 hf
  simp
 have := List.all_eq_true.1 h fn hm
 simpa using this
theorem yM : ∀ (a b : List Nat), Fu a b = a ++ b
 | [], b => rfl
 | x :: a, b => congrArg (x :: ·) (yM a b)
theorem wZ (sep : List UInt8) : ∀ (xs : List (List UInt8)), uK (sep.map UInt8.toNat) (xs.map fun x => x.map UInt8.toNat) = (Lib.join xs sep).map UInt8.toNat
 | [] => by rw [Lib.join_nil]; rfl
 | [x] => by rw [Lib.join_one]; rfl
 | x :: y :: r => by
  have ih := wZ sep (y :: r)
  simp only [List.map_cons] at ih ⊢
  show Fu _ (Fu _ (uK _ (_ :: _))) = _
  rw [yM, yM, ih]
  rw [Lib.join_cons x, Lib.join_cons y]
  simp [Lib.joinTail, List.append_assoc]
theorem uL : ∀ (n : Nat) (l : List AV) (r : List (List Nat)), rZ n l = some r → r.length = n ∧ ∀ (j : Nat) (s : List Nat), r[j]? = some s → l[j]? = some (AV.str s)
 | 0, l, r, h => by simp only [rZ] at h; cases h; exact ⟨rfl, fun j s q => by simp at q⟩
 | n + 1, [], r, h => by simp only [rZ] at h; cases h
 | n + 1, v :: l, r, h => by
  cases v with
  | str s =>
   simp only [rZ] at h
   cases hr : rZ n l with
   | none => rw [hr] at h; cases h
   | some r' =>
    rw [hr] at h; cases h
    obtain ⟨h1, h2⟩ := uL n l r' hr
    refine ⟨by simp [h1], fun j s' q => ?_⟩
    cases j with
    | zero => simp at q; subst q; rfl
    | succ j => simpa using h2 j s' (by simpa using q)
  | _ => simp only [rZ] at h; cases h
theorem A0 : ∀ (n : Nat) (l : List AV), HP n l = l.drop n
 | 0, l => rfl
 | n + 1, [] => rfl
 | n + 1, x :: l => A0 n l
theorem Ea {β : cn} {cur : Array Value} {vs : List AV} {base off : Nat} (hc : ∀ (i : Nat) (v : AV), vs[i]? = some v → ∃ c, cur[base + i]? = some c ∧ VR β v c) : ∀ (xs : List (List Nat)) (o : Nat), (∀ j s, xs[j]? = some s → vs[o + j]? = some (.str s)) → ∃ bs : List ByteArray, bs.map (fun b => b.data.toList.map UInt8.toNat) = xs ∧ ∀ j b, bs[j]? = some b → cur[base + o + j]? = some (.string b)
 | [], o, _ => ⟨[], rfl, fun j b q => by simp at q⟩
 | s :: xs, o, h => by
  obtain ⟨c, h1, h2⟩ := hc (o + 0) (.str s) (h 0 s rfl)
  simp only [VR] at h2
  obtain ⟨b, rfl, hb⟩ := h2
  obtain ⟨bs, h3, h4⟩ := Ea (off := off) hc xs (o + 1) fun j s' q => by
   have := h (j + 1) s' (by simpa using q)
   rw [show o + 1 + j = o + (j + 1) by omega]; exact this
  refine ⟨b :: bs, by simp [hb, h3], fun j b' q => ?_⟩
  cases j with
  | zero =>
   simp at q; subst q
   have e : base + o + 0 = base + (o + 0) := by omega
   rw [e]; exact h1
  | succ j =>
   have := h4 j b' (by simpa using q)
   rw [show base + o + (j + 1) = base + (o + 1) + j by omega]; exact this
theorem yN : ∃ fn, Tryz.prog.funcs[131]? = some fn ∧ fn.body.isNone = false ∧ (fn.name == "runtime.NumGoroutine") = false := ⟨_, Tryz.func131, by kernel_rfl, by kernel_rfl⟩
theorem PX : dG False Tryz.prog Tryz.prog.globals.size (JM 131) := by
 intro g args c h v h' q hc hw
 unfold JM at q
 cases hb : Nat.beq g 131 with
 | false => rw [hb] at q; cases q
 | true =>
  rw [hb] at q
  have e := Nat.eq_of_beq_eq_true hb
  subst e
  simp only [cond] at q
  split at q
  ·rename_i id off n cap sep
   cases n with
   | zero =>
    cases q
    refine lu.up ⟨Step.refl hw, yN, fun β w cargs hgb hr hv hfr R hR => ?_⟩
    simp only [bE, VR] at hv
    obtain ⟨u, us, rfl, ⟨L, o, cp, h1, rfl, h2⟩, u2, us2, rfl, ⟨b, rfl, hb2⟩, rfl⟩ := hv
    refine (Tryz.strings_Join_none (some ⟨L.cm, o, none⟩) cp b w).mono fun e w' ⟨he, hbw⟩ => ?_
    subst he hbw
    exact hR β _ _ (kT hr (Below.refl _ _) fun q => q.elim) ⟨⟨#[]⟩, rfl, rfl⟩
   | succ n =>
    simp only at q
    split at q
    ·rename_i vs hg
     split at q
     ·rename_i xs hxs
      cases hl : (Nat.ble (iG (uK sep xs)) 1000000 && Nat.ble n 1000000) with
      | false => rw [hl] at q; cases q
      | true =>
       rw [hl] at q
       cases q
       simp only [Bool.and_eq_true] at hl
       have hl1 := Nat.le_of_ble_eq_true hl.1
       have hl2 := Nat.le_of_ble_eq_true hl.2
       rw [dw] at hl1
       rw [A0] at hxs
       obtain ⟨hxl, hxg⟩ := uL _ _ _ hxs
       refine lu.up ⟨Step.refl hw, yN, fun β w cargs hgb hr hv hfr R hR => ?_⟩
       simp only [bE, VR] at hv
       obtain ⟨u, us, rfl, ⟨L, o, cp, h1, rfl, hcp, hsz, ho, hcap⟩, u2, us2, rfl, ⟨b, rfl, hb2⟩, rfl⟩ := hv
       have ho' : o = L.base + off := by
        rcases ho with q | q
        ·exact q
        ·omega
       obtain ⟨L', q1, q2, cur, t, q3, q4, q5⟩ := hr.at_ id _ (dB hg)
       rw [h1] at q1; cases q1
       obtain ⟨bs, hbs1, hbs2⟩ := Ea (off := off) q5 xs off fun j s q => by
        have := hxg j s q
        rwa [List.getElem?_drop] at this
       have hbl : bs.length = n + 1 := by
        have := congrArg List.length hbs1
        rw [List.length_map] at this
        omega
       have hjoin : uK sep xs = (Lib.join (bs.map (·.data.toList)) b.data.toList).map UInt8.toNat := by
        rw [← wZ, hb2, ← hbs1]
        simp [List.map_map, Function.comp_def]
       have hlen : (Lib.join (bs.map (·.data.toList)) b.data.toList).length ≤ 140737488355328 := by
        have := congrArg List.length hjoin
        rw [List.length_map] at this
        omega
       have hcall := Tryz.strings_Join L.cm o cp bs b w (fun j x hj => by
        have := hbs2 j x hj
        unfold World.cell?
        simp only [q3]
        rw [ho']
        simpa using this) q2 om om hlen
       rw [hbl] at hcall
       refine hcall.mono fun e w' ⟨he, hbw⟩ => ?_
       subst he
       exact hR β _ _ (kT hr hbw fun q => q.elim) ⟨_, rfl, by rw [hjoin]⟩
     ·cases q
    ·cases q
  ·cases q
   refine lu.up ⟨Step.refl hw, yN, fun β w cargs hgb hr hv hfr R hR => ?_⟩
   simp only [bE, VR] at hv
   obtain ⟨u, us, rfl, rfl, u2, us2, rfl, ⟨b, rfl, hb2⟩, rfl⟩ := hv
   refine (Tryz.strings_Join_none none 0 b w).mono fun e w' ⟨he, hbw⟩ => ?_
   subst he hbw
   exact hR β _ _ (kT hr (Below.refl _ _) fun q => q.elim) ⟨⟨#[]⟩, rfl, rfl⟩
  ·cases q
theorem SE : Tryz.prog.globals.size = 6 := by kernel_rfl
theorem PY : wY Tryz.prog [] := by
 intro f g hf
 cases hf
theorem Fv (w : World) : Calls Tryz.prog 4 #[] w fun e w' => e = .returned (.bool true) ∧ Below w.heap.size w w' ∧ (False → w.drawn ≤ w'.drawn) := by
 obtain ⟨h', hk⟩ := A1 C6
 let β : cn := fun g => if g < 6 then some ⟨g, 0, 0, dv⟩ else none
 have hview : ∀ id b, view (top 6) ⟨.nil, 6⟩ id = some b → False := fun id b q => by
  have q1 := (da q).1
  rw [Tr.get_nil] at q1; cases q1
 have hr : HR (top 6).floor β (view (top 6) ⟨.nil, 6⟩) w := ⟨fun id b q => (hview id b q).elim, fun i j b d L M q1 _ _ _ _ => (hview i b q1).elim⟩
 have hgb : GB Tryz.prog.globals.size β := fun g hg => ⟨0, by rw [SE] at hg; simp [β, hg]⟩
 refine (HQ (dr := False) (cargs := []) (h0 := ⟨.nil, 6⟩) mixed kS PY PX hk ?_ hgb hr (fun id bV => ?_) (by simp [bE])).mono fun e w' ⟨β', val, h1, h2, _, h4, _⟩ => ?_
 ·exact ⟨fun id _ => Tr.get_nil _, Nat.le_refl _⟩
 ·have hid' : 6 ≤ id := bV
  simp [β]; omega
 ·simp only [VR] at h2
  subst h2
  exact ⟨h1, h4, fun q => q.elim⟩
end
section
open Go Go.RowKit
theorem HN {s : ByteArray} {k : Nat} {b : UInt8} (h : s.data.toList[k]? = some b) : s[k]! = b := by
 have h1 : s.data[k]? = some b := by simpa using h
 obtain ⟨hlt, he⟩ := Array.getElem?_eq_some_iff.1 h1
 have hlt' : k < s.size := hlt
 rw [getElem!_pos s k hlt']
 exact he
theorem wX {s : ByteArray} {c : Nat} (hc : c ≤ 255) : ∀ (l : List UInt8) (i : Nat), (∀ j, l[j]? = s.data.toList[i + j]?) → qJ c (l.map UInt8.toNat) i = match (List.range' i l.length).find? (fun k => s[k]! == c.toUInt8) with | some k => (k : Int) | none => -1
 | [], i, _ => rfl
 | b :: l, i, h => by
  have h0 := h 0
  simp only [List.getElem?_cons_zero, Nat.add_zero] at h0
  have hb := HN h0.symm
  have ih := wX hc l (i + 1) (fun j => by have := h (j + 1); simp only [List.getElem?_cons_succ] at this; rw [this]; congr 1; omega)
  simp only [List.map_cons, qJ, List.length_cons, List.range'_succ, List.find?_cons]
  have hcn : c.toUInt8.toNat = c := by simp [Nat.toUInt8, UInt8.toNat_ofNat']; omega
  cases hq : Nat.beq b.toNat c with
  | true =>
   have e := Nat.eq_of_beq_eq_true hq
   have : (s[i]! == c.toUInt8) = true := by
    rw [hb, beq_iff_eq]
    exact UInt8.toNat_inj.1 (by rw [hcn]; exact e)
   rw [this]; rfl
  | false =>
   have : (s[i]! == c.toUInt8) = false := by
    rw [hb, beq_eq_false_iff_ne]
    intro q
    rw [q, hcn] at hq
    simp at hq
   rw [this]; exact ih
theorem Ms : wY Tryz.prog X0 := by
 intro f g hf args v hg β cargs w hv
 unfold X0 AY at hf
 cases hb : Nat.beq 309 f with
 | false => rw [hb] at hf; cases hf
 | true =>
  rw [hb] at hf
  simp only [cond, Option.some.injEq] at hf
  have e := Nat.eq_of_beq_eq_true hb
  subst e hf
  unfold Rj at hg
  split at hg
  ·rename_i s c
   cases hc : Nat.ble c 255 with
   | false => rw [hc] at hg; cases hg
   | true =>
    rw [hc] at hg
    simp only [cond, eh, Option.some.injEq] at hg
    subst hg
    simp only [bE, VR] at hv
    obtain ⟨u, us, rfl, ⟨b, rfl, rfl⟩, u2, us2, rfl, rfl, rfl⟩ := hv
    have hc' := Nat.le_of_ble_eq_true hc
    refine ⟨.int .i64 (firstIdx b c.toUInt8), ?_, ?_⟩
    ·rw [run_callFunc_extern (fn := Tryz.f309) (e := Extern.BytealgIndexByte.indexByte) Tryz.func309 (by kernel_rfl) (by kernel_rfl) (by kernel_rfl) (by kernel_rfl)]
     have := run_indexByte_string (P := Tryz.prog) b (Int.ofNat c) w
     rw [show ((Value.string b :: [Value.int .u8 (Int.ofNat c)]).toArray : Array Value) = #[.string b, .int .u8 (Int.ofNat c)] from rfl, this]
     rfl
    ·have := wX (s := b) hc' b.data.toList 0 (by simp)
     simp only [VR]
     rw [this]
     unfold firstIdx
     rw [List.range_eq_range']
     have hl : b.data.toList.length = b.size := by simp
     rw [hl]
     cases (List.range' 0 b.size).find? (fun k => b[k]! == c.toUInt8) <;> rfl
  ·cases hg
abbrev SD : Gb := ⟨fun _ => none⟩
def Fs (k : Ky) : nP := ⟨k.1, k.2.1, k.2.2⟩
theorem C3 (a b : Int) : (a < b ∧ kQ a b = -1) ∨ (b < a ∧ kQ a b = 1) ∨ (a = b ∧ kQ a b = 0) := by
 unfold kQ
 by_cases h : a < b
 ·rw [if_pos h]; omega
 ·rw [if_neg h]
  by_cases h2 : b < a
  ·rw [if_pos h2]; omega
  ·rw [if_neg h2]; omega
theorem Rt (a b c : Int) : JO [a, b, c] = if a = 0 then (if b = 0 then c else b) else a := by
 unfold JO
 by_cases h : a = 0 <;> by_cases h2 : b = 0 <;> by_cases h3 : c = 0 <;> simp [List.findSome?, h, h2, h3]
theorem Kw (x y : Ky) : Kl (Fs x) (Fs y) = Mr x y := by
 have p1 := C3 x.1 y.1
 have p2 := C3 x.2.1 y.2.1
 have p3 := C3 x.2.2 y.2.2
 show JO [kQ x.1 y.1, kQ x.2.1 y.2.1, kQ x.2.2 y.2.2] = Mr x y
 rw [Rt]
 unfold Mr
 generalize kQ x.1 y.1 = u at *
 generalize kQ x.2.1 y.2.1 = v at *
 generalize kQ x.2.2 y.2.2 = q at *
 have h1 := dU (a := x) (b := y)
 have h2 := dU (a := y) (b := x)
 by_cases a : rX x y = true
 ·rw [if_pos a]
  rw [h1] at a
  (repeat' split) <;> omega
 ·rw [if_neg a]
  rw [h1] at a
  by_cases b : rX y x = true
  ·rw [if_pos b]
   rw [h2] at b
   (repeat' split) <;> omega
  ·rw [if_neg b]
   rw [h2] at b
   (repeat' split) <;> omega
theorem D7 {P : Program} {X : dg} {M : Mf} {c : C} {f : Nat} {args : List AV} {h : H} {v : AV} {h' : H} {x : XF} (hx : bW P X f = some (.fn x)) (hno : ∀ av c h, M f av c h = none) (hg : D8 P X M c (.fn f) args h v h') : D8 P X M c (.Kx f) args h v h' := by
 obtain ⟨N, hN⟩ := hg
 refine ⟨N + 1, fun n hn => ?_⟩
 cases n with
 | zero => omega
 | succ n =>
  have h1 := hN (n + 1) om
  have h2 : (match M f args c h with | some r => lr.call r.1 r.2 | none => jF (ev (cC P) (bW P X) M n) c args h (bW P X f)) = .call v h' := h1
  rw [hno] at h2
  show (match bW P X f with | some (.fn x) => jF (ev (cC P) (bW P X) M n) c args h (some (.fn x)) | _ => .bad) = _
  rw [hx] at h2 ⊢
  exact h2
theorem Nv : HK 25 := fun x y w => by
 have w0 := @lO SD (Fs x) (Fs y) (fun v => v = .int .i64 (Kl (Fs x) (Fs y))) rfl
 let h0 : H := ⟨.nil, Tryz.prog.globals.size⟩
 have hn0 : h0.n = Tryz.prog.globals.size := rfl
 have hget : ∀ id, Tr.get h0.t id = none := fun id => Tr.get_nil id
 obtain ⟨v, h', hg, p, S', F', _, _, hr, e⟩ := w0 (top h0.n) h0 (fun _ => False) [.agg [.int .i64 x.1, .int .i64 x.2.1, .int .i64 x.2.2], .agg [.int .i64 y.1, .int .i64 y.2.1, .int .i64 y.2.2]]
  (@St.nil SD _ _ _ ⟨Nat.le_refl _, fun id _ => ew (Nat.zero_le _)⟩ (fun g row q => by cases q) (fun id q => q.elim))
  (.cons _ _ _ _ (.agg _ _ (.cons _ _ _ _ (.int _ _) (.cons _ _ _ _ (.int _ _) (.cons _ _ _ _ (.int _ _) .nil)))) (.cons _ _ _ _ (.agg _ _ (.cons _ _ _ _ (.int _ _) (.cons _ _ _ _ (.int _ _) (.cons _ _ _ _ (.int _ _) .nil)))) .nil))
 subst e
 cases hr
 have hg2 := D7 gC (fun _ _ _ => rfl) hg
 refine (HO (dr := True) mixed kS Ms dG.no hg2 ⟨fun id _ => hget id, Nat.le_refl _⟩ (β := fun id => if id < Tryz.prog.globals.size then some ⟨id, 0, 0, dv⟩ else none) (fun g hgl => ⟨0, if_pos hgl⟩) ⟨fun id b q => ?_, fun i j b d L M q _ _ _ _ => ?_⟩ (fun id bV => if_neg om) (cargs := [jS x, jS y]) ?_).mono fun e w' ⟨β', val, h1, h2, _, h4, h5⟩ => ?_
 ·have := (da q).1
  rw [hget] at this
  cases this
 ·have := (da q).1
  rw [hget] at this
  cases this
 ·simp only [bE, VR]
  exact ⟨_, _, rfl, ⟨_, rfl, _, _, rfl, rfl, _, _, rfl, rfl, _, _, rfl, rfl, rfl⟩, _, _, rfl, ⟨_, rfl, _, _, rfl, rfl, _, _, rfl, rfl, _, _, rfl, rfl, rfl⟩, rfl⟩
 ·simp only [VR] at h2
  subst h2
  rw [Kw] at h1
  exact ⟨h1, h4, h5 trivial⟩
end
end Go.Proofs.YtgaihilgffficaaGreatDoor.Ev
