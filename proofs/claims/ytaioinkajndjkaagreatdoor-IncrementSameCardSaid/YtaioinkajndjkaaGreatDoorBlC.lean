/- strings.Builder inside an evaluation. -/
import Derived.Shelf.Strings.Builder1
import Derived.Test.YtaioinkajndjkaaGreatDoorEvFin
set_option linter.unusedVariables false
set_option linter.unusedSimpArgs false
/- The methods of strings.Builder, and what they leave as it was: every block but the builder's own and its buffer's. -/
namespace Go.Proofs.YtaioinkajndjkaaGreatDoor.Bl
open Go Go.Shelf Go.RowKit Go.Proofs
/-- all but the blocks of S is as it was -/
structure Only (S : Nat → Prop) (w w' : World) : Prop where
  os : w'.os = w.os
  tape : w'.tape = w.tape
  output : w'.output = w.output
  size : w.heap.size ≤ w'.heap.size
  block : ∀ k, k < w.heap.size → ¬ S k → w'.heap[k]? = w.heap[k]?
theorem Only.refl (S : Nat → Prop) (w : World) : Only S w w := ⟨rfl, rfl, rfl, Nat.le_refl _, fun _ _ _ => rfl⟩
theorem Only.trans {S : Nat → Prop} {w w1 w2 : World} (a : Only S w w1) (b : Only S w1 w2) : Only S w w2 :=
  ⟨b.os.trans a.os, b.tape.trans a.tape, b.output.trans a.output, Nat.le_trans a.size b.size, fun k hk hs => (b.block k (Nat.lt_of_lt_of_le hk a.size) hs).trans (a.block k hk hs)⟩
theorem Only.grown {S : Nat → Prop} {w w' : World} {row : Option Nat} (h : w.grownBy w' row) (hs : ∀ k, some k = row → S k) : Only S w w' :=
  ⟨h.os, h.tape, h.output, h.size, fun k hk hn => h.block k hk fun e => hn (hs k e)⟩
theorem Only.setCell {S : Nat → Prop} (w : World) (p : Addr) (v : Value) (hs : S p.block) : Only S w (w.setCell p v) :=
  ⟨rfl, rfl, rfl, by simp [World.setCell], fun k hk hn => Below.heap_setCell _ _ _ _ (fun e => hn (by rw [← e] at hs; exact hs))⟩
theorem Only.alloc {S : Nat → Prop} (w : World) (o : Obj) : Only S w (w.alloc o) :=
  ⟨rfl, rfl, rfl, by simp, fun k hk _ => Lib.alloc_old w o k hk⟩
theorem Only.drew {S : Nat → Prop} (w : World) : Only S w w.drew := ⟨rfl, rfl, rfl, Nat.le_refl _, fun _ _ _ => rfl⟩
theorem Only.freeze {S : Nat → Prop} (w : World) (p : Addr) (n : Nat) (hs : S p.block) : Only S w (w.freeze p n) := by
  unfold World.freeze
  split
  · exact Only.refl S w
  · exact ⟨rfl, rfl, rfl, by simp, fun k hk hn => by
      simp only [Array.getElem?_modify]
      rw [if_neg (fun e => hn (by rw [← e]; exact hs))]⟩
section
variable {P : Program}
/-- where the bytes lie behind an append of a text -/
theorem place_str (w : World) (t u ty e : TypeId) (i : TypeInfo) (ht : P.underlying t = some (.slice e)) (hu : P.underlying u = some .string) (hi : P.info? e = some i) (hz : i.zero = some (.int .u8 0)) (hsize : i.size = 1) (hby : i.bytes = 1)
    (v : Value) (n : Nat) (xs : List Value) (hown : w.ownsRow 0 e 1 v n xs) (s : ByteArray) (h63 : n + s.size ≤ maxLen) (hbytes : n + s.size ≤ 140737488355328) {v' : Value} {w' : World}
    (hr : (Builtin.append_ #[t, u] ty #[v, .string s]).run P w = .ok v' w') : v'.ownBlock = v.ownBlock ∨ v'.ownBlock = some w.heap.size := by
  have hsmall : n + s.size ≤ 9223372036854775807 := by simp only [maxLen] at h63; omega
  have hxl : xs.length = n := by simpa using hown.1
  rcases hown.2 with ⟨rfl, rfl⟩ | ⟨g, cap, cur, rfl, hbg, hg, hnc, hcm, hcs, htake⟩
  · by_cases hm : s.size = 0
    · have hf := Lib.run_firstCells_string (P := P) w 1 s
      rw [hm] at hf
      have h0 : (Builtin.append_ #[t, u] ty #[.slice none 0 0, .string s]).run P w = .ok (.slice none 0 0) w := by
        simp [Builtin.append_, run_underlying ht, run_underlying hu, sizeOf, typeInfo, hi, hsize, Builtin.lenOf, hm, hf]
      rw [h0] at hr
      cases hr
      exact Or.inl rfl
    · have h0 := run_append_nil_string (P := P) w t u ty e i (.int .u8 0) ht hu hi hz s (by omega) (by omega) (by rw [hby]; omega)
      rw [h0] at hr
      cases hr
      exact Or.inr rfl
  · by_cases hroom : n + s.size ≤ cap
    · have hcs' : cur.size = cap := by simpa using hcs
      have h0 := Lib.run_append_room_string (P := P) w t u ty e i ht hu hi hsize g n cap cur hg s hroom (by omega)
      rw [h0] at hr
      cases hr
      exact Or.inl rfl
    · have holds : ∀ j u, xs[j]? = some u → w.cell? ((⟨g, 0, none⟩ : Addr).add j) = some u := hown.cells (g := g) rfl
      have h0 := Lib.run_append_grow_string (P := P) w t u ty e i (.int .u8 0) ht hu hi hz ⟨g, 0, none⟩ n cap xs (by rw [hsize]; simpa using hxl) holds s (by omega) (by omega) (by rw [hby]; exact growslice_fits (by omega) (by omega))
      rw [h0] at hr
      cases hr
      exact Or.inr rfl
/-- the same, of cells -/
theorem place_row (w : World) (t ty e : TypeId) (i : TypeInfo) (ht : P.underlying t = some (.slice e)) (hi : P.info? e = some i) (hz : i.zero = some (.int .u8 0)) (hsize : i.size = 1) (hby : i.bytes = 1)
    (v : Value) (n : Nat) (xs : List Value) (hown : w.ownsRow 0 e 1 v n xs) (a : Addr) (c : Nat) (x : Value) (hnews : ∀ j u, [x][j]? = some u → w.cell? (a.add j) = some u) (h1 : x.oneCell' = true) (h63 : n + 1 ≤ maxLen) (hbytes : n + 1 ≤ 140737488355328) {v' : Value} {w' : World}
    (hr : (Builtin.append_ #[t, t] ty #[v, .slice (some a) 1 c]).run P w = .ok v' w') : v'.ownBlock = v.ownBlock ∨ v'.ownBlock = some w.heap.size := by
  have hsmall : n + 1 ≤ 9223372036854775807 := by simp only [maxLen] at h63; omega
  have hxl : xs.length = n := by simpa using hown.1
  rcases hown.2 with ⟨rfl, rfl⟩ | ⟨g, cap, cur, rfl, hbg, hg, hnc, hcm, hcs, htake⟩
  · have h0 := run_append_nil (P := P) w t ty e i (.int .u8 0) ht hi hz a 1 c [x] (by rw [hsize]; rfl) hnews (by omega) (by omega) (by rw [hby]; omega)
    rw [h0] at hr
    cases hr
    exact Or.inr rfl
  · by_cases hroom : n + 1 ≤ cap
    · have hcs' : cur.size = cap := by simpa using hcs
      have h0 := run_append_room (P := P) w t ty e i ht hi g n cap cur hg a 1 c [x] (by rw [hsize]; rfl) hnews (fun u hu => by simp at hu; subst hu; exact h1) hroom (by rw [hsize]; simp; omega)
      rw [h0] at hr
      cases hr
      exact Or.inl rfl
    · have holds : ∀ j u, xs[j]? = some u → w.cell? ((⟨g, 0, none⟩ : Addr).add j) = some u := hown.cells (g := g) rfl
      have h0 := run_append_grow (P := P) w t ty e i (.int .u8 0) ht hi hz ⟨g, 0, none⟩ n cap xs (by rw [hsize]; simpa using hxl) holds a 1 c [x] (by rw [hsize]; rfl) hnews (by omega) (by omega) (by rw [hby]; exact growslice_fits (by omega) (by omega))
      rw [h0] at hr
      cases hr
      exact Or.inr rfl
theorem wpList_str {w : World} {ops : Array Oper} {rest : List Oper} {o : Oper} {a : Act} {Q : Exit → Act → World → Prop} (hgd : o.guard = none) (sl x : Operand) (t u : TypeId)
    (ho : o.op = .call { callee := .builtin .append, args := #[sl, x], argTypes := #[t, u] })
    (e : TypeId) (i : TypeInfo) (ht : P.underlying t = some (.slice e)) (hu : P.underlying u = some .string) (hi : P.info? e = some i) (hz : i.zero = some (.int .u8 0))
    (hsize : i.size = 1) (hby : i.bytes = 1)
    (v : Value) (n : Nat) (xs : List Value) (hs : a.eval sl = v) (hown : w.ownsRow 0 e 1 v n xs) (s : ByteArray) (hx : a.eval x = .string s)
    (h63 : n + s.size ≤ maxLen) (hbytes : n + s.size ≤ 140737488355328)
    (h : ∀ v' w', w'.ownsRow 0 e 1 v' (n + s.size) (xs ++ Lib.strCells s) → w.grownBy w' v.ownBlock → (v'.ownBlock = v.ownBlock ∨ v'.ownBlock = some w.heap.size) → wpList P ops Q rest (a.put o.dst v') w') : wpList P ops Q (o :: rest) a w := by
  refine wpList_plain hgd fun K hK => ?_
  obtain ⟨v', w', hr, h2, h3, h4⟩ := Lib.run_append_own_string (P := P) w 0 t u o.type e i ht hu hi hz hsize hby v n xs hown s h63 hbytes (Nat.zero_le _)
  have h5 := place_str w t u o.type e i ht hu hi hz hsize hby v n xs hown s h63 hbytes hr
  unfold Oper.wp execOp
  simp only [ho, resolve, invoke, builtin, Sem.run_bind, Sem.run_pure, Result.andThen_ok, List.map_toArray, List.map_cons, List.map_nil, hs, hx, hr]
  exact hK _ _ (h v' w' h2 h3 h5)
theorem wpList_row {w : World} {ops : Array Oper} {rest : List Oper} {o : Oper} {a : Act} {Q : Exit → Act → World → Prop} (hgd : o.guard = none) (sl x : Operand) (t : TypeId)
    (ho : o.op = .call { callee := .builtin .append, args := #[sl, x], argTypes := #[t, t] })
    (e : TypeId) (i : TypeInfo) (ht : P.underlying t = some (.slice e)) (hi : P.info? e = some i) (hz : i.zero = some (.int .u8 0))
    (hsize : i.size = 1) (hby : i.bytes = 1)
    (v : Value) (n : Nat) (xs : List Value) (hs : a.eval sl = v) (hown : w.ownsRow 0 e 1 v n xs) (ad : Addr) (c : Nat) (y : Value) (hx : a.eval x = .slice (some ad) 1 c) (hnews : ∀ j u, [y][j]? = some u → w.cell? (ad.add j) = some u) (h1 : y.oneCell' = true)
    (h63 : n + 1 ≤ maxLen) (hbytes : n + 1 ≤ 140737488355328)
    (h : ∀ v' w', w'.ownsRow 0 e 1 v' (n + 1) (xs ++ [y]) → w.grownBy w' v.ownBlock → (v'.ownBlock = v.ownBlock ∨ v'.ownBlock = some w.heap.size) → wpList P ops Q rest (a.put o.dst v') w') : wpList P ops Q (o :: rest) a w := by
  refine wpList_plain hgd fun K hK => ?_
  obtain ⟨v', w', hr, h2, h3, h4⟩ := run_append_own (P := P) w 0 t o.type e i (.int .u8 0) 1 1 ht hi hz hsize hby rfl (by decide) v n xs hown ad 1 c [y] rfl hnews (fun u hu => by simp at hu; subst hu; exact h1) h63 (by omega) (Nat.zero_le _)
  have h5 := place_row w t o.type e i ht hi hz hsize hby v n xs hown ad c y hnews h1 h63 hbytes hr
  unfold Oper.wp execOp
  simp only [ho, resolve, invoke, builtin, Sem.run_bind, Sem.run_pure, Result.andThen_ok, List.map_toArray, List.map_cons, List.map_nil, hs, hx, hr]
  exact hK _ _ (h v' w' h2 h3 h5)
end
variable {P : Program} {ρ : Ren}
/-- a builder in block b with the buffer v -/
structure At (T e : TypeId) (b : Nat) (v : Value) (bs : List Value) (w : World) : Prop where
  blk : ∃ p, (p = .pointer none ∨ p = .pointer (some ⟨b, 0, none⟩)) ∧ w.heap[b]? = some (.cells #[p, v] T (0, 0))
  own : w.ownsRow 0 e 1 v bs.length bs
  ne : v.ownBlock ≠ some b
theorem At.is {T e : TypeId} {b : Nat} {v : Value} {bs : List Value} {w : World} (h : At T e b v bs w) : Lib.IsBuilder T e 0 b bs w := by
  obtain ⟨p, hp, hb⟩ := h.blk
  rcases hp with rfl | rfl
  · exact Or.inl ⟨Nat.zero_le _, v, hb, h.own, h.ne⟩
  · exact Or.inr ⟨Nat.zero_le _, v, hb, h.own, h.ne⟩
theorem At.lt {T e : TypeId} {b : Nat} {v : Value} {bs : List Value} {w : World} (h : At T e b v bs w) : b < w.heap.size := by
  obtain ⟨p, _, hb⟩ := h.blk
  rcases Nat.lt_or_ge b w.heap.size with h' | h'
  · exact h'
  · simp [Array.getElem?_eq_none h'] at hb
theorem copyCheck (L : Lays.n240 P ρ) (X : Builder.X72 P ρ) (b : Nat) (v : Value) (bs : List Value) (w : World) (h : At (ρ.t 72) (ρ.t 5) b v bs w) :
    Calls P (ρ.f 240) #[.pointer (some ⟨b, 0, none⟩)] w fun e w' => e = .returned (.tuple #[]) ∧ w'.heap[b]? = some (.cells #[.pointer (some ⟨b, 0, none⟩), v] (ρ.t 72) (0, 0)) ∧ w'.ownsRow 0 (ρ.t 5) 1 v bs.length bs ∧ Only (fun k => k = b) w w' ∧ w'.heap.size = w.heap.size := by
  obtain ⟨p, hp, hb⟩ := h.blk
  have hc0 : w.cell? ⟨b, 0, none⟩ = some p := by rw [Lib.cell_of_heap hb]; rfl
  rcases hp with rfl | rfl
  · have hsh : w.shape? b = some (ρ.t 72, 2) := by simp [World.shape?, hb]
    refine (Any.Builder_copyCheck_fresh L X b w hc0 hsh (Lib.frozen_of_heap hb 0)).mono ?_
    rintro e w' ⟨rfl, rfl⟩
    refine ⟨rfl, ?_, ?_, Only.setCell w _ _ rfl, by simp [World.setCell]⟩
    · simp [World.setCell, Array.getElem?_modify, hb]
    · exact h.own.kept (row := some b) ⟨rfl, rfl, rfl, by simp [World.setCell], fun k _ hk => Below.heap_setCell _ _ _ _ (fun e => hk (by simp [e]))⟩ (Or.inr h.ne)
  · refine (Any.Builder_copyCheck_used L X b w hc0).mono ?_
    rintro e w' ⟨rfl, rfl⟩
    exact ⟨rfl, hb, h.own, Only.refl _ _, rfl⟩
set_option maxHeartbeats 2000000 in
set_option maxRecDepth 100000 in
theorem writeString (L : Lays.n166 P ρ) (X : Builder.Extra P ρ) (b : Nat) (v : Value) (bs : List Value) (s : ByteArray) (w : World) (h : At (ρ.t 72) (ρ.t 5) b v bs w) (hlen : bs.length + s.size ≤ 140737488355328) :
    Calls P (ρ.f 166) #[.pointer (some ⟨b, 0, none⟩), .string s] w fun e w' => e = .returned (.tuple #[.int .i64 s.size, .nilIface]) ∧ ∃ v', At (ρ.t 72) (ρ.t 5) b v' (bs ++ Lib.strCells s) w' ∧ (v'.ownBlock = v.ownBlock ∨ v'.ownBlock = some w.heap.size) ∧ Only (fun k => k = b ∨ v.ownBlock = some k) w w' := by
  obtain ⟨i0, hi, hz0, hz1, hz2⟩ := info_parts X.infoByte
  have mixed := L.mixed
  have t72 := L.t72; have a72 := L.a72; have z72 := L.z72; have v72 := L.v72; have u72 := run_underlying L.t72
  have t70 := L.t70; have a70 := L.a70; have z70 := L.z70; have v70 := L.v70; have u70 := run_underlying L.t70
  have t37 := L.t37; have a37 := L.a37; have z37 := L.z37; have v37 := L.v37; have u37 := run_underlying L.t37
  have t3 := L.t3; have a3 := L.a3; have z3 := L.z3; have v3 := L.v3; have u3 := run_underlying L.t3
  have t9 := L.t9; have a9 := L.a9; have z9 := L.z9; have v9 := L.v9; have u9 := run_underlying L.t9
  have t4 := L.t4; have a4 := L.a4; have z4 := L.z4; have v4 := L.v4; have u4 := run_underlying L.t4
  have t164 := L.t164; have a164 := L.a164; have z164 := L.z164; have v164 := L.v164; have u164 := run_underlying L.t164
  have t5 := X.t5; have a5 := X.a5; have z5 := X.z5; have v5 := X.v5; have u5 := run_underlying X.t5
  have e240 : ∀ args w, (callFunc (ρ.f 240) args).run P w = .ok (.enter (ρ.f 240) args) w := enters_of L.f240 (by kernel_rfl) rfl
  have hne := h.ne
  have hltw := h.lt
  go_enter L.f166, Body.n166_ntmps ρ
  go_wp2_with (go_at_fn (ρ.f 240); refine (copyCheck { L with } X.toX72 b v bs _ h).mono ?_)
  rintro e w1 ⟨rfl, hbk, hown, hb1, hs1⟩
  have hs2 : w1.heap.size ≤ w.heap.size := Nat.le_of_eq hs1
  have hs3 : w.heap.size ≤ w1.heap.size := Nat.le_of_eq hs1.symm
  clear hs1
  have c0 : w1.cell? ⟨b, 0, none⟩ = some (.pointer (some ⟨b, 0, none⟩)) := by rw [Lib.cell_of_heap hbk]; rfl
  have c1 : w1.cell? ⟨b, 1, none⟩ = some v := by rw [Lib.cell_of_heap hbk]; rfl
  go_wp2_with (at_builtin; refine wpList_str rfl _ _ (ρ.t 37) (ρ.t 9) rfl (ρ.t 5) i0 L.t37 L.t9 hi hz0 hz1 hz2 _ _ _ rfl hown s rfl ?c3 ?c4 ?_)
  case c3 => unfold maxLen; omega
  case c4 => omega
  intro v' w2 hown' hgrow hpl
  have hlt : b < w1.heap.size := by omega
  have hb2 : w2.heap[b]? = some (.cells #[.pointer (some ⟨b, 0, none⟩), v] (ρ.t 72) (0, 0)) := by
    rw [hgrow.block b hlt (fun e => hne e.symm)]
    exact hbk
  have d0 : w2.cell? ⟨b, 0, none⟩ = some (.pointer (some ⟨b, 0, none⟩)) := by rw [Lib.cell_of_heap hb2]; rfl
  have d1 : w2.cell? ⟨b, 1, none⟩ = some v := by rw [Lib.cell_of_heap hb2]; rfl
  have f1 : w2.frozen? ⟨b, 1, none⟩ = false := Lib.frozen_of_heap hb2 1
  obtain ⟨ao, n', cap, rfl⟩ : ∃ ao n' cap, v' = .slice ao n' cap := by
    rcases hown'.2 with ⟨hv, _⟩ | ⟨g, cap, cur, hv, _⟩
    · exact ⟨_, _, _, hv⟩
    · exact ⟨_, _, _, hv⟩
  go_wp2
  go_ret2
  obtain ⟨_, v2, q1, q2, q3⟩ := Lib.BuilderAt.put (T := (ρ.t 72)) (e := (ρ.t 5)) (Nat.zero_le b) hb2 (bs' := bs ++ Lib.strCells s) (by simpa [Lib.strCells_length] using hown') X.neB5
  have hv2 : v2 = .slice ao n' cap := by
    have : (w2.setCell ⟨b, 1, none⟩ (.slice ao n' cap)).heap[b]? = some (.cells #[.pointer (some ⟨b, 0, none⟩), .slice ao n' cap] (ρ.t 72) (0, 0)) := by
      simp [World.setCell, Array.getElem?_modify, hb2]
    rw [this] at q1
    simp at q1
    exact q1.symm
  subst hv2
  refine ⟨rfl, _, ⟨⟨_, Or.inr rfl, q1⟩, q2, q3⟩, by rw [show w.heap.size = w1.heap.size by omega]; exact hpl, ?_⟩
  exact (Only.trans ⟨hb1.os, hb1.tape, hb1.output, hb1.size, fun k hk hn => hb1.block k hk fun e => hn (Or.inl e)⟩ (Only.grown hgrow fun k e => Or.inr e.symm)).trans (Only.setCell _ _ _ (Or.inl rfl))
set_option maxHeartbeats 2000000 in
set_option maxRecDepth 100000 in
theorem writeByte (L : Lays.n167 P ρ) (X : Builder.Extra P ρ) (b : Nat) (v : Value) (bs : List Value) (c : Int) (w : World) (h : At (ρ.t 72) (ρ.t 5) b v bs w) (hlen : bs.length + 1 ≤ 140737488355328) :
    Calls P (ρ.f 167) #[.pointer (some ⟨b, 0, none⟩), .int .u8 c] w fun e w' => e = .returned .nilIface ∧ ∃ v', At (ρ.t 72) (ρ.t 5) b v' (bs ++ [.int .u8 c]) w' ∧ (v'.ownBlock = v.ownBlock ∨ ∃ g, v'.ownBlock = some g ∧ w.heap.size ≤ g) ∧ Only (fun k => k = b ∨ v.ownBlock = some k) w w' := by
  obtain ⟨i0, hi, hz0, hz1, hz2⟩ := info_parts X.infoByte
  have mixed := L.mixed
  have t72 := L.t72; have a72 := L.a72; have z72 := L.z72; have v72 := L.v72; have u72 := run_underlying L.t72
  have t70 := L.t70; have a70 := L.a70; have z70 := L.z70; have v70 := L.v70; have u70 := run_underlying L.t70
  have t5 := L.t5; have a5 := L.a5; have z5 := L.z5; have v5 := L.v5; have u5 := run_underlying L.t5
  have t37 := L.t37; have a37 := L.a37; have z37 := L.z37; have v37 := L.v37; have u37 := run_underlying L.t37
  have t9 := L.t9; have a9 := L.a9; have z9 := L.z9; have v9 := L.v9; have u9 := run_underlying L.t9
  have t4 := L.t4; have a4 := L.a4; have z4 := L.z4; have v4 := L.v4; have u4 := run_underlying L.t4
  have t164 := L.t164; have a164 := L.a164; have z164 := L.z164; have v164 := L.v164; have u164 := run_underlying L.t164
  have e240 : ∀ args w, (callFunc (ρ.f 240) args).run P w = .ok (.enter (ρ.f 240) args) w := enters_of L.f240 (by kernel_rfl) rfl
  have hne := h.ne
  have hltw := h.lt
  go_enter L.f167, Body.n167_ntmps ρ
  go_wp2_with (go_at_fn (ρ.f 240); refine (copyCheck { L with } X.toX72 b v bs _ h).mono ?_)
  rintro e w1 ⟨rfl, hbk, hown, hb1, hs1⟩
  have hs2 : w1.heap.size ≤ w.heap.size := Nat.le_of_eq hs1
  have hs3 : w.heap.size ≤ w1.heap.size := Nat.le_of_eq hs1.symm
  clear hs1
  have c0 : w1.cell? ⟨b, 0, none⟩ = some (.pointer (some ⟨b, 0, none⟩)) := by rw [Lib.cell_of_heap hbk]; rfl
  have c1 : w1.cell? ⟨b, 1, none⟩ = some v := by rw [Lib.cell_of_heap hbk]; rfl
  go_wp2_with (at_builtin; (refine wpList_row rfl _ _ (ρ.t 37) rfl (ρ.t 5) i0 L.t37 hi hz0 hz1 hz2 _ _ _ rfl (hown.alloc _) ⟨w1.heap.size, 0, none⟩ 1 (.int .u8 c) rfl ?c1 rfl ?c3 ?c4 ?_))
  case c1 =>
    intro j u hj
    match j, hj with
    | 0, hj => simp at hj; subst hj; simp [Addr.add]
  case c3 => unfold maxLen; omega
  case c4 => omega
  intro v' w2 hown' hgrow hpl
  have hlt : b < w1.heap.size := by omega
  have hb2 : w2.heap[b]? = some (.cells #[.pointer (some ⟨b, 0, none⟩), v] (ρ.t 72) (0, 0)) := by
    rw [hgrow.block b (by simp; omega) (fun e => hne e.symm), Lib.alloc_old w1 _ b hlt]
    exact hbk
  have d0 : w2.cell? ⟨b, 0, none⟩ = some (.pointer (some ⟨b, 0, none⟩)) := by rw [Lib.cell_of_heap hb2]; rfl
  have d1 : w2.cell? ⟨b, 1, none⟩ = some v := by rw [Lib.cell_of_heap hb2]; rfl
  have f1 : w2.frozen? ⟨b, 1, none⟩ = false := Lib.frozen_of_heap hb2 1
  obtain ⟨g, cap, rfl⟩ : ∃ g cap, v' = .slice (some ⟨g, 0, none⟩) (bs.length + 1) cap := by
    rcases hown'.2 with ⟨_, h0⟩ | ⟨g, cap, cur, hv, _⟩
    · omega
    · exact ⟨g, cap, hv⟩
  go_wp2
  go_ret
  obtain ⟨_, v2, q1, q2, q3⟩ := Lib.BuilderAt.put (T := (ρ.t 72)) (e := (ρ.t 5)) (Nat.zero_le b) hb2 (bs' := bs ++ [.int .u8 c]) (by simpa using hown') X.neB5
  have hv2 : v2 = .slice (some ⟨g, 0, none⟩) (bs.length + 1) cap := by
    have : (w2.setCell ⟨b, 1, none⟩ (.slice (some ⟨g, 0, none⟩) (bs.length + 1) cap)).heap[b]? = some (.cells #[.pointer (some ⟨b, 0, none⟩), .slice (some ⟨g, 0, none⟩) (bs.length + 1) cap] (ρ.t 72) (0, 0)) := by
      simp [World.setCell, Array.getElem?_modify, hb2]
    rw [this] at q1
    simp at q1
    exact q1.symm
  subst hv2
  refine ⟨rfl, _, ⟨⟨_, Or.inr rfl, q1⟩, q2, q3⟩, ?_, ?_⟩
  · rcases hpl with q | q
    · exact Or.inl q
    · exact Or.inr ⟨_, q, by omega⟩
  · exact (((Only.trans ⟨hb1.os, hb1.tape, hb1.output, hb1.size, fun k hk hn => hb1.block k hk fun e => hn (Or.inl e)⟩ (Only.alloc w1 _)).trans (Only.grown hgrow fun k e => Or.inr e.symm)).trans (Only.setCell _ _ _ (Or.inl rfl)))
set_option maxHeartbeats 2000000 in
set_option maxRecDepth 100000 in
theorem string_some (L : Lays.n169 P ρ) (X : Builder.Extra P ρ) (b : Nat) (v : Value) (l : List UInt8) (w : World) (h : At (ρ.t 72) (ρ.t 5) b v (Lib.byteCells l) w) (h0 : l ≠ []) :
    Calls P (ρ.f 169) #[.pointer (some ⟨b, 0, none⟩)] w fun e w' => e = .returned (.string ⟨l.toArray⟩) ∧ Only (fun k => v.ownBlock = some k) w w' := by
  obtain ⟨p, hp, hbk⟩ := h.blk
  have hown := h.own
  have hl0 : l.length ≠ 0 := by simpa using h0
  rw [Lib.byteCells_length] at hown
  obtain ⟨g, cap, cur, rfl, hbg, hg, hnc, hcm, hcs, htake⟩ : ∃ g cap cur, v = .slice (some ⟨g, 0, none⟩) l.length cap ∧ 0 ≤ g ∧ w.heap[g]? = some (.cells cur (ρ.t 5) (0, 0)) ∧ l.length ≤ cap ∧ cap ≤ maxLen ∧ cur.size = cap * 1 ∧ cur.toList.take (l.length * 1) = Lib.byteCells l := by
    rcases hown.2 with ⟨_, hz⟩ | ⟨g, cap, cur, hv, r⟩
    · exact absurd hz hl0
    · exact ⟨g, cap, cur, hv, r⟩
  have c1 : w.drew.cell? ⟨b, 1, none⟩ = some (.slice (some ⟨g, 0, none⟩) l.length cap) := by
    have : w.drew.heap[b]? = some (.cells #[p, .slice (some ⟨g, 0, none⟩) l.length cap] (ρ.t 72) (0, 0)) := hbk
    rw [Lib.cell_of_heap this]; rfl
  have hSD : (Builtin.unsafeSliceData_ #[(ρ.t 37)] (ρ.t 127) #[.slice (some ⟨g, 0, none⟩) l.length cap]).run P w.drew = .ok (.pointer (some ⟨g, 0, none⟩)) w.drew :=
    Lib.run_unsafeSliceData_row _ _ _ _ _ _ (by omega)
  have hUS : (Builtin.unsafeString_ #[(ρ.t 127), (ρ.t 3)] (ρ.t 9) #[.pointer (some ⟨g, 0, none⟩), .int .i64 l.length]).run P w.drew = .ok (.string ⟨l.toArray⟩) (w.drew.freeze ⟨g, 0, none⟩ l.length) := by
    refine Lib.run_unsafeString_row w.drew (ρ.t 127) (ρ.t 3) (ρ.t 9) (ρ.t 5) L.t127 X.cellsByte g cur.size (by have hg' : w.drew.heap[g]? = some (.cells cur (ρ.t 5) (0, 0)) := hg; simp [World.shape?, hg']) l h0 (by omega) (by unfold maxLen at hcm; omega) ?_
    intro j x hx
    have := hown.cells (g := g) rfl j (.int .u8 x.toNat) (by simp [Lib.byteCells, hx])
    exact this
  have mixed := L.mixed
  have t72 := L.t72; have a72 := L.a72; have z72 := L.z72; have v72 := L.v72; have u72 := run_underlying L.t72
  have t70 := L.t70; have a70 := L.a70; have z70 := L.z70; have v70 := L.v70; have u70 := run_underlying L.t70
  have t37 := L.t37; have a37 := L.a37; have z37 := L.z37; have v37 := L.v37; have u37 := run_underlying L.t37
  have t127 := L.t127; have a127 := L.a127; have z127 := L.z127; have v127 := L.v127; have u127 := run_underlying L.t127
  have t3 := L.t3; have a3 := L.a3; have z3 := L.z3; have v3 := L.v3; have u3 := run_underlying L.t3
  have t9 := L.t9; have a9 := L.a9; have z9 := L.z9; have v9 := L.v9; have u9 := run_underlying L.t9
  have t5 := X.t5; have a5 := X.a5; have z5 := X.z5; have v5 := X.v5; have u5 := run_underlying X.t5
  go_enter L.f169, Body.n169_ntmps ρ
  go_wp2
  go_region_o
  all_goals (go_wp2; go_ret; exact ⟨rfl, (Only.drew w).trans (Only.freeze _ ⟨g, 0, none⟩ _ rfl)⟩)
theorem len (L : Lays.n170 P ρ) (b : Nat) (v : Value) (bs : List Value) (w : World) (h : At (ρ.t 72) (ρ.t 5) b v bs w) :
    Calls P (ρ.f 170) #[.pointer (some ⟨b, 0, none⟩)] w fun e w' => e = .returned (.int .i64 bs.length) ∧ w' = w := Any.Builder_Len L 0 b bs w h.is
end Go.Proofs.YtaioinkajndjkaaGreatDoor.Bl
/- Calls of the methods of strings.Builder, answered. -/
namespace Go.Proofs.YtaioinkajndjkaaGreatDoor.Ev
open Go Go.RowKit
/-- more bytes -/
def bldW (c : C) (h : H) (id T e : Nat) (s : List Nat) (j : Option Nat) (u : List Nat) (v : AV) : Option (AV × H) :=
  appK s u fun su => bif Nat.blt 0 (lenN su) && Nat.blt (lenN su) 1000000 then match j with
    | none => setB c h id (.bld T su (some h.n)) fun h1 => newB h1 (.byt e su) fun _ h2 => some (v, h2)
    | some j => match getB c h j with
      | some (.byt e' s') => bif Nat.beq e' e && eqL s' s then setB c h j .dead fun h1 => setB c h1 id (.bld T su (some h.n)) fun h2 => newB h2 (.byt e su) fun _ h3 => some (v, h3) else none
      | _ => none
  else none
def allB : List Nat → Bool
  | [] => true
  | n :: l => bif Nat.blt n 256 then allB l else false
theorem allB_some : ∀ {s : List Nat}, allB s = true → ∀ x ∈ s, x < 256
  | [], _, x, hx => by cases hx
  | n :: l, h, x, hx => by
    unfold allB at h
    cases hb : Nat.blt n 256 with
    | false => rw [hb] at h; cases h
    | true =>
      rw [hb, cond_true] at h
      rcases List.mem_cons.1 hx with rfl | hx
      · simpa [Nat.blt_eq] using hb
      · exact allB_some h x hx
def bldS (c : C) (h : H) (id e : Nat) (s : List Nat) (j : Option Nat) : Option (AV × H) := match s, j with
  | _ :: _, some j => match getB c h j with
    | some (.byt e' s') => bif Nat.beq e' e && eqL s' s && allB s' then setB c h j .dead fun h1 => setB c h1 id .dead fun h2 => some (.str s, h2) else none
    | _ => none
  | _, _ => none
def okJ (c : C) (h : H) (e : Nat) (s : List Nat) (j : Option Nat) : Bool := match j with
  | none => true
  | some k => bif Nat.ble c.floor k then match getB c h k with
    | some (.byt e' s') => Nat.beq e' e && eqL s' s
    | _ => false
  else false
def bldM (ws wb st ln T e : Nat) : Mf := fun g args c h => match args with
  | .ptr id 0 :: rest => match getB c h id with
    | some (.bld T' s j) => bif Nat.beq T' T then
        bif Nat.beq g ws then match rest with
          | [.str u] => forceNat (lenN u) fun n => bldW c h id T e s j u (.tup [.int .i64 (.ofNat n), .nili])
          | _ => none
        else bif Nat.beq g wb then match rest with
          | [.int .u8 (.ofNat n)] => bif Nat.blt n 256 then bldW c h id T e s j [n] .nili else none
          | _ => none
        else bif Nat.beq g st then match rest with
          | [] => bldS c h id e s j
          | _ => none
        else bif Nat.beq g ln then match rest with
          | [] => bif Nat.ble c.floor id && okJ c h e s j then forceNat (lenN s) fun n => some (.int .i64 (.ofNat n), h) else none
          | _ => none
        else none
      else none
    | _ => none
  | _ => none
section
variable {f n : Nat} {β : Bet} {g g' : View} {w w' : World}
theorem post_bld {id : Nat} {oj : Option Nat} {b0 b b' : AB} {L N : Loc} (hr : HR f β g w) (h0 : g id = some b0) (hL : β id = some L) (hf : f ≤ id) (hj : ∀ j, oj = some j → ∃ bj, g j = some bj ∧ f ≤ j ∧ j ≠ id) (hn : β n = none)
    (hN : w.heap.size ≤ N.blk ∨ ∃ j G, oj = some j ∧ β j = some G ∧ N.blk = G.blk) (hNs : N.blk < w'.heap.size) (hw : ∀ B, B < w.heap.size → B ≠ L.blk → (∀ j G, oj = some j → β j = some G → B ≠ G.blk) → w'.heap[B]? = w.heap[B]?)
    (hs : w.heap.size ≤ w'.heap.size) (hos : w'.os = w.os) (htp : w'.tape = w.tape) (hout : w'.output = w.output) (hb : BR (upd β n N) L w' b) (hb' : BR (upd β n N) N w' b')
    (hg : ∀ i d, g' i = some d → (i = n ∧ d = b') ∨ (i = id ∧ i ≠ n ∧ d = b) ∨ (i ≠ n ∧ i ≠ id ∧ oj ≠ some i ∧ g i = some d)) : Post f n (n + 1) β g w (upd β n N) g' w' := by
  obtain ⟨L', hL', hLs, _⟩ := hr.at_ id b0 h0
  rw [hL] at hL'; cases hL'
  have hin : id ≠ n := fun e => by rw [e, hn] at hL; cases hL
  have apart : ∀ i d M, i ≠ id → oj ≠ some i → g i = some d → β i = some M → M.blk ≠ L.blk ∧ ∀ j G, oj = some j → β j = some G → M.blk ≠ G.blk := fun i d M x y e1 e2 => by
    refine ⟨fun q => ?_, fun j G q1 q2 q => ?_⟩
    · rcases hr.inj i id d b0 M L e1 h0 e2 hL q with z | z
      · exact x z
      · omega
    · obtain ⟨bj, p1, p2, p3⟩ := hj j q1
      rcases hr.inj i j d bj M G e1 p1 e2 q2 q with z | z
      · exact y (by rw [z]; exact q1)
      · omega
  have old : ∀ i d M, i ≠ n → g i = some d → upd β n N i = some M → β i = some M ∧ M.blk < w.heap.size := fun i d M x e1 e2 => by
    rw [upd_other x] at e2
    obtain ⟨M', h1, h2, _⟩ := hr.at_ i d e1
    rw [h1] at e2; cases e2; exact ⟨h1, h2⟩
  have Nne : ∀ i d M, i ≠ id → oj ≠ some i → g i = some d → β i = some M → M.blk < w.heap.size → M.blk ≠ N.blk := fun i d M x y e1 e2 e3 q => by
    rcases hN with z | ⟨j, G, q1, q2, q3⟩
    · omega
    · exact (apart i d M x y e1 e2).2 j G q1 q2 (by rw [q, q3])
  have NL : N.blk ≠ L.blk := fun q => by
    rcases hN with z | ⟨j, G, q1, q2, q3⟩
    · omega
    · obtain ⟨bj, p1, p2, p3⟩ := hj j q1
      rcases hr.inj j id bj b0 G L p1 h0 q2 hL (by rw [← q3, q]) with z | z
      · exact p3 z
      · omega
  refine ⟨by omega, upd_sub N hn, fun i M h1 h2 => ?_, ⟨fun i d e => ?_, fun i k d e M M' h1 h2 h3 h4 h5 => ?_⟩, hos, htp, hout, hs, fun B hB hh => ?_, fun i M h1 h2 => ?_, fun i d e => ?_⟩
  · by_cases x : i = n
    · omega
    · rw [upd_other x, h2] at h1; cases h1
  · rcases hg i d e with ⟨rfl, rfl⟩ | ⟨rfl, x, rfl⟩ | ⟨x, y, z, e⟩
    · exact ⟨N, upd_same _ _ _, hNs, hb'⟩
    · exact ⟨L, by rw [upd_other x]; exact hL, by omega, hb⟩
    · obtain ⟨M, h1, h2, h3⟩ := hr.at_ i d e
      have ha := apart i d M y z e h1
      exact ⟨M, by rw [upd_other x]; exact h1, by omega, h3.mono (upd_sub N hn) (hw _ h2 ha.1 ha.2)⟩
  · rcases hg i d h1 with ⟨rfl, rfl⟩ | ⟨rfl, x, rfl⟩ | ⟨x, y, z, e1⟩ <;> rcases hg k e h2 with ⟨rfl, rfl⟩ | ⟨rfl, x', rfl⟩ | ⟨x', y', z', e2⟩
    · exact Or.inl rfl
    · rw [upd_same] at h3; cases h3
      rw [upd_other x', hL] at h4; cases h4
      exact absurd h5 NL
    · rw [upd_same] at h3; cases h3
      obtain ⟨q1, q2⟩ := old k e M' x' e2 h4
      exact absurd h5.symm (Nne k e M' y' z' e2 q1 q2)
    · rw [upd_same] at h4; cases h4
      rw [upd_other x, hL] at h3; cases h3
      exact absurd h5.symm NL
    · exact Or.inl rfl
    · rw [upd_other x, hL] at h3; cases h3
      obtain ⟨q1, q2⟩ := old k e M' x' e2 h4
      exact absurd h5.symm (apart k e M' y' z' e2 q1).1
    · rw [upd_same] at h4; cases h4
      obtain ⟨q1, q2⟩ := old i d M x e1 h3
      exact absurd h5 (Nne i d M y z e1 q1 q2)
    · rw [upd_other x', hL] at h4; cases h4
      obtain ⟨q1, q2⟩ := old i d M x e1 h3
      exact absurd h5 (apart i d M y z e1 q1).1
    · obtain ⟨q1, q2⟩ := old i d M x e1 h3
      obtain ⟨q3, q4⟩ := old k e M' x' e2 h4
      exact hr.inj i k d e M M' e1 e2 q1 q3 h5
  · refine hw B hB (fun e => hh id b0 L hf h0 hL e.symm) fun j G q1 q2 e => ?_
    obtain ⟨bj, p1, p2, p3⟩ := hj j q1
    exact hh j bj G p2 p1 q2 e.symm
  · by_cases x : i = n
    · subst x; rw [upd_same] at h1; cases h1
      rcases hN with z | ⟨j, G, q1, q2, q3⟩
      · exact Or.inl z
      · obtain ⟨bj, p1, p2, p3⟩ := hj j q1
        exact Or.inr ⟨j, bj, G, p2, p1, q2, q3.symm⟩
    · rw [upd_other x, h2] at h1; cases h1
  · rcases hg i d e with ⟨rfl, rfl⟩ | ⟨rfl, x, rfl⟩ | ⟨x, y, z, e⟩
    · exact Or.inr hn
    · exact Or.inl ⟨b0, h0⟩
    · exact Or.inl ⟨d, e⟩
/-- two blocks die, one of them is written -/
theorem post_kill {id j : Nat} {b0 bj : AB} {L G : Loc} (hr : HR f β g w) (h0 : g id = some b0) (hL : β id = some L) (hf : f ≤ id) (hj : g j = some bj) (hG : β j = some G) (hfj : f ≤ j)
    (hw : ∀ B, B < w.heap.size → B ≠ G.blk → w'.heap[B]? = w.heap[B]?) (hs : w.heap.size ≤ w'.heap.size) (hos : w'.os = w.os) (htp : w'.tape = w.tape) (hout : w'.output = w.output)
    (hg : ∀ i d, g' i = some d → i ≠ id ∧ i ≠ j ∧ g i = some d) : Post f n n β g w β g' w' := by
  refine ⟨Nat.le_refl _, Sub.refl _, fun i M h1 h2 => by (rw [h2] at h1; cases h1), ⟨fun i d e => ?_, fun i k d e M M' h1 h2 h3 h4 h5 => ?_⟩, hos, htp, hout, hs, fun B hB hh => hw B hB fun e => hh j bj G hfj hj hG e.symm, fun i M h1 h2 => by (rw [h2] at h1; cases h1), fun i d e => Or.inl ⟨d, (hg i d e).2.2⟩⟩
  · obtain ⟨x, y, e⟩ := hg i d e
    obtain ⟨M, h1, h2, h3⟩ := hr.at_ i d e
    refine ⟨M, h1, by omega, h3.mono (Sub.refl _) (hw _ h2 fun q => ?_)⟩
    rcases hr.inj i j d bj M G e hj h1 hG q with z | z
    · exact y z
    · omega
  · exact hr.inj i k d e M M' (hg i d h1).2.2 (hg k e h2).2.2 h3 h4 h5
end
section
variable {P : Program} {ng : Nat} {c : C} {h : H}
theorem bytes_cells (s : List Nat) : (s.map fun n => Value.int .u8 (Int.ofNat n)).length = s.length := by simp
theorem at_of {β : Bet} {w : World} {id T e : Nat} {s : List Nat} {j : Option Nat} (hr : HR c.floor β (view c h) w) (hg : getB c h id = some (.bld T s j)) (hf : c.floor ≤ id) (hj : ∀ k, j = some k → getB c h k = some (.byt e s) ∧ c.floor ≤ k) :
    ∃ L v, β id = some L ∧ L.base = 0 ∧ bufOf β s.length j v ∧ Bl.At T e L.blk v (s.map fun n => Value.int .u8 (Int.ofNat n)) w := by
  have hv : view c h id = some (.bld T s j) := view_live hg (fun q => by cases q)
  obtain ⟨L, h1, h2, p, v, h3, h4, h5, h6⟩ := hr.at_ id _ hv
  refine ⟨L, v, h1, h6, h5, ⟨⟨p, h3, h4⟩, ?_, ?_⟩⟩
  · cases j with
    | none =>
      obtain ⟨rfl, h7⟩ := h5
      have : s = [] := List.eq_nil_of_length_eq_zero h7
      subst this
      exact ⟨by simp, Or.inl ⟨rfl, rfl⟩⟩
    | some k =>
      obtain ⟨G, g1, rfl, g3, g4⟩ := h5
      obtain ⟨k1, k2⟩ := hj k rfl
      have hvk : view c h k = some (.byt e s) := view_live k1 (fun q => by cases q)
      obtain ⟨G', q1, q2, cur, q3, q4, q5, q6⟩ := hr.at_ k _ hvk
      rw [g1] at q1; cases q1
      refine ⟨by simp, Or.inr ⟨G.blk, G.size, cur, by simp, Nat.zero_le _, q3, by simpa using g3, g4, by rw [q4]; simp, by simpa using q6⟩⟩
  · cases j with
    | none =>
      obtain ⟨rfl, h7⟩ := h5
      simp [Value.ownBlock]
    | some k =>
      obtain ⟨G, g1, rfl, g3, g4⟩ := h5
      obtain ⟨k1, k2⟩ := hj k rfl
      have hvk : view c h k = some (.byt e s) := view_live k1 (fun q => by cases q)
      intro q
      simp only [Value.ownBlock, Option.some.injEq] at q
      rcases hr.inj k id _ _ G L hvk hv g1 h1 q with z | z
      · subst z; rw [hg] at k1; cases k1
      · omega
theorem own_block {β : Bet} {n : Nat} {j : Option Nat} {v : Value} (h : bufOf β n j v) {k : Nat} (hk : v.ownBlock = some k) : ∃ i G, j = some i ∧ β i = some G ∧ G.blk = k := by
  cases j with
  | none => obtain ⟨rfl, _⟩ := h; simp [Value.ownBlock] at hk
  | some i =>
    obtain ⟨G, g1, rfl, _⟩ := h
    simp only [Value.ownBlock, Option.some.injEq] at hk
    exact ⟨i, G, rfl, g1, hk⟩
theorem cells_str (b : ByteArray) : Lib.strCells b = (b.data.toList.map UInt8.toNat).map fun n => Value.int .u8 (Int.ofNat n) := by
  unfold Lib.strCells
  rw [List.map_map]; rfl
/-- more bytes: whatever call gives them -/
theorem bldW_did {g id T e : Nat} {s u : List Nat} {j : Option Nat} {v : AV} {args : List AV} {r : AV} {h' : H} (hw : WF h) (hc : Ctx c h) (hgt : getB c h id = some (.bld T s j)) (er : bldW c h id T e s j u v = some (r, h'))
    (hfn : ∃ fn, P.funcs[g]? = some fn ∧ fn.body.isNone = false ∧ (fn.name == "runtime.NumGoroutine") = false)
    (hcall : ∀ β w cargs, GB ng β → VRs β args cargs → ∀ L b, β id = some L → L.base = 0 → Bl.At T e L.blk b (s.map fun n => Value.int .u8 (Int.ofNat n)) w → (s ++ u).length < 1000000 → Calls P g cargs.toArray w fun en w' => ∃ val, en = .returned val ∧ VR β v val ∧ ∃ b', Bl.At T e L.blk b' ((s ++ u).map fun n => Value.int .u8 (Int.ofNat n)) w' ∧ (b'.ownBlock = b.ownBlock ∨ ∃ k, b'.ownBlock = some k ∧ w.heap.size ≤ k) ∧ Bl.Only (fun k => k = L.blk ∨ b.ownBlock = some k) w w') :
    FnDid P ng g args c h r h' := by
  unfold bldW at er
  rw [appK_eq] at er
  cases hb : (Nat.blt 0 (lenN (s ++ u)) && Nat.blt (lenN (s ++ u)) 1000000) with
  | false => rw [hb] at er; cases er
  | true =>
    rw [hb] at er
    simp only [Bool.and_eq_true, Nat.blt_eq, lenN_eq] at hb
    obtain ⟨hb1, hb2⟩ := hb
    simp only [cond] at er
    obtain ⟨g1, g2⟩ := getB_get hgt
    have hid : id < 10000000 := Nat.lt_of_lt_of_le (lt_of_get hw g1) hw.small
    have hlt := lt_of_get hw g1
    -- what is left of the heap
    have key : ∀ (hf : c.floor ≤ id) (hn : h.n < 10000000) (hj : ∀ k, j = some k → getB c h k = some (.byt e s) ∧ c.floor ≤ k ∧ k ≠ id) (hst : Step c h h') (hn' : h'.n = h.n + 1) (hv' : ∀ i d, view c h' i = some d → (i = h.n ∧ d = .byt e (s ++ u)) ∨ (i = id ∧ i ≠ h.n ∧ d = .bld T (s ++ u) (some h.n)) ∨ (i ≠ h.n ∧ i ≠ id ∧ j ≠ some i ∧ view c h i = some d)), r = v → FnDid P ng g args c h r h' := by
      intro hf hn hj hst hn' hv' hrv
      subst hrv
      refine ⟨hst, hfn, fun β w cargs hgb hr hv hfr R hR => ?_⟩
      obtain ⟨L, bv, l1, l2, l3, l4⟩ := at_of hr hgt hf fun k hk => ⟨(hj k hk).1, (hj k hk).2.1⟩
      have hnn := hfr h.n (Nat.le_refl _) (by omega)
      refine (hcall β w cargs hgb hv L bv l1 l2 l4 hb2).mono ?_
      rintro en w' ⟨val, rfl, hval, b', k1, k2, k3⟩
      obtain ⟨p, p1, p2⟩ := k1.blk
      obtain ⟨gb, cap, cur, q1, q2, q3, q4, q5, q6, q7⟩ : ∃ gb cap cur, b' = .slice (some ⟨gb, 0, none⟩) (s ++ u).length cap ∧ 0 ≤ gb ∧ w'.heap[gb]? = some (.cells cur e (0, 0)) ∧ (s ++ u).length ≤ cap ∧ cap ≤ maxLen ∧ cur.size = cap * 1 ∧ cur.toList.take ((s ++ u).length * 1) = (s ++ u).map fun n => Value.int .u8 (Int.ofNat n) := by
        rcases k1.own.2 with ⟨_, q⟩ | q
        · rw [bytes_cells] at q; omega
        · rw [bytes_cells] at q; exact q
      subst q1
      have hgbl : gb < w'.heap.size := by
        rcases Nat.lt_or_ge gb w'.heap.size with q | q
        · exact q
        · rw [Array.getElem?_eq_none q] at q3; cases q3
      refine hR (upd β h.n ⟨gb, 0, cap, dv⟩) val w' ?_ (VR.mono (upd_sub _ hnn) _ _ hval)
      rw [hn']
      have hvid : view c h id = some (.bld T s j) := view_live hgt (fun q => by cases q)
      refine post_bld (oj := j) (b := .bld T (s ++ u) (some h.n)) (b' := .byt e (s ++ u)) hr hvid l1 hf (fun k hk => ⟨_, view_live (hj k hk).1 (fun q => by cases q), (hj k hk).2.1, (hj k hk).2.2⟩) hnn ?_ hgbl ?_ k3.size k3.os k3.tape k3.output ?_ ?_ hv'
      · rcases k2 with q | ⟨k, qa, qb⟩
        · obtain ⟨i, G, z1, z2, z3⟩ := own_block l3 (k := gb) (by rw [← q]; rfl)
          exact Or.inr ⟨i, G, z1, z2, z3.symm⟩
        · simp only [Value.ownBlock, Option.some.injEq] at qa
          exact Or.inl (by show w.heap.size ≤ gb; omega)
      · intro B hB hBL hBj
        refine k3.block B hB fun q => ?_
        rcases q with q | q
        · exact hBL q
        · obtain ⟨i, G, z1, z2, z3⟩ := own_block l3 q
          exact hBj i G z1 z2 z3.symm
      · exact ⟨p, _, p1, p2, ⟨⟨gb, 0, cap, dv⟩, upd_same _ _ _, rfl, q4, q5⟩, l2⟩
      · exact ⟨cur, q3, by rw [q6]; simp, rfl, by simpa using q7⟩
    cases j with
    | none =>
      simp only at er
      obtain ⟨hf, _, er⟩ := setB_some er
      obtain ⟨hn, er⟩ := newB_some er
      simp only [Option.some.injEq, Prod.mk.injEq] at er
      obtain ⟨e1, e2⟩ := er
      subst e2
      have hn' : h.n < 10000000 := hn
      refine key hf hn' (fun k hk => by cases hk) ((step_set hw g1 hf g2).trans (step_new (step_set hw g1 hf g2).wf hn)) rfl (fun i d ei => ?_) e1.symm
      rcases view_new hn ei with ⟨z1, z2⟩ | ⟨z1, z2⟩
      · exact Or.inl ⟨z1, z2⟩
      · rcases view_set hid z2 with ⟨y1, y2⟩ | ⟨y1, y2⟩
        · exact Or.inr (Or.inl ⟨y1, z1, y2⟩)
        · exact Or.inr (Or.inr ⟨z1, y1, (fun q => by cases q), y2⟩)
    | some k =>
      simp only at er
      split at er
      · rename_i e' s' hgk
        cases hq : (Nat.beq e' e && eqL s' s) with
        | false => rw [hq] at er; cases er
        | true =>
          rw [hq] at er
          simp only [Bool.and_eq_true] at hq
          obtain ⟨hq1, hq2⟩ := hq
          have hee := Nat.eq_of_beq_eq_true hq1
          have hss := eqL_sound hq2
          subst hee hss
          simp only [cond] at er
          obtain ⟨g3, g4⟩ := getB_get hgk
          have hkd : k < 10000000 := Nat.lt_of_lt_of_le (lt_of_get hw g3) hw.small
          have hki : k ≠ id := fun q => by subst q; rw [hgt] at hgk; cases hgk
          obtain ⟨hfk, _, er⟩ := setB_some er
          obtain ⟨hf, _, er⟩ := setB_some er
          obtain ⟨hn, er⟩ := newB_some er
          simp only [Option.some.injEq, Prod.mk.injEq] at er
          obtain ⟨e1, e2⟩ := er
          subst e2
          have hn' : h.n < 10000000 := hn
          have st1 := step_set (b := .dead) hw g3 hfk g4
          have g1' : Tr.get (⟨Tr.set depth h.t k .dead, h.n⟩ : H).t id = some (.bld T s' (some k)) := by
            show Tr.get (Tr.set depth h.t k .dead) id = _
            rw [get_set40 _ _ _ _ hkd, if_neg hki]; exact g1
          have st2 := step_set (b := .bld T (s' ++ u) (some h.n)) st1.wf g1' hf g2
          refine key hf hn' (fun k' hk' => by cases hk'; exact ⟨hgk, hfk, hki⟩) ((st1.trans st2).trans (step_new st2.wf hn)) rfl (fun i d ei => ?_) e1.symm
          rcases view_new hn ei with ⟨z1, z2⟩ | ⟨z1, z2⟩
          · exact Or.inl ⟨z1, z2⟩
          · rcases view_set (h := ⟨Tr.set depth h.t k .dead, h.n⟩) hid z2 with ⟨y1, y2⟩ | ⟨y1, y2⟩
            · exact Or.inr (Or.inl ⟨y1, z1, y2⟩)
            · rcases view_set (h := h) hkd y2 with ⟨x1, x2⟩ | ⟨x1, x2⟩
              · subst x2
                have := view_get y2
                unfold view at y2
                rw [this] at y2; cases y2
              · exact Or.inr (Or.inr ⟨z1, y1, (fun q => by cases q; exact x1 rfl), x2⟩)
      · cases er
/-- the text of a builder -/
theorem bldS_did {g id T e : Nat} {s : List Nat} {j : Option Nat} {args : List AV} {r : AV} {h' : H} (hw : WF h) (hgt : getB c h id = some (.bld T s j)) (er : bldS c h id e s j = some (r, h'))
    (hfn : ∃ fn, P.funcs[g]? = some fn ∧ fn.body.isNone = false ∧ (fn.name == "runtime.NumGoroutine") = false)
    (hcall : ∀ β w cargs, GB ng β → VRs β args cargs → ∀ L b, β id = some L → L.base = 0 → s ≠ [] → (∀ x ∈ s, x < 256) → Bl.At T e L.blk b (s.map fun n => Value.int .u8 (Int.ofNat n)) w → Calls P g cargs.toArray w fun en w' => ∃ val, en = .returned val ∧ VR β (.str s) val ∧ Bl.Only (fun k => b.ownBlock = some k) w w') :
    FnDid P ng g args c h r h' := by
  unfold bldS at er
  split at er
  · rename_i x xs k
    split at er
    · rename_i e' s' hgk
      cases hq : (Nat.beq e' e && eqL s' (x :: xs) && allB s') with
      | false => rw [hq] at er; cases er
      | true =>
        rw [hq] at er
        simp only [Bool.and_eq_true] at hq
        obtain ⟨⟨hq1, hq2⟩, hq3⟩ := hq
        have hee := Nat.eq_of_beq_eq_true hq1
        have hss := eqL_sound hq2
        subst hee hss
        simp only [cond] at er
        obtain ⟨g1, g2⟩ := getB_get hgt
        have hid : id < 10000000 := Nat.lt_of_lt_of_le (lt_of_get hw g1) hw.small
        obtain ⟨g3, g4⟩ := getB_get hgk
        have hkd : k < 10000000 := Nat.lt_of_lt_of_le (lt_of_get hw g3) hw.small
        have hki : k ≠ id := fun q => by subst q; rw [hgt] at hgk; cases hgk
        obtain ⟨hfk, _, er⟩ := setB_some er
        obtain ⟨hf, _, er⟩ := setB_some er
        simp only [Option.some.injEq, Prod.mk.injEq] at er
        obtain ⟨e1, e2⟩ := er
        subst e1 e2
        have st1 := step_set (b := .dead) hw g3 hfk g4
        have g1' : Tr.get (⟨Tr.set depth h.t k .dead, h.n⟩ : H).t id = some (.bld T (x :: xs) (some k)) := by
          show Tr.get (Tr.set depth h.t k .dead) id = _
          rw [get_set40 _ _ _ _ hkd, if_neg hki]; exact g1
        have st2 := step_set (b := .dead) st1.wf g1' hf g2
        refine ⟨st1.trans st2, hfn, fun β w cargs hgb hr hv hfr R hR => ?_⟩
        obtain ⟨L, bv, l1, l2, l3, l4⟩ := at_of hr hgt hf fun k' hk' => by cases hk'; exact ⟨hgk, hfk⟩
        refine (hcall β w cargs hgb hv L bv l1 l2 (by simp) (allB_some hq3) l4).mono ?_
        rintro en w' ⟨val, rfl, hval, k3⟩
        obtain ⟨G, m1, m2, m3, m4⟩ := l3
        have hvid : view c h id = some (.bld T (x :: xs) (some k)) := view_live hgt (fun q => by cases q)
        have hvk : view c h k = some (.byt e' (x :: xs)) := view_live hgk (fun q => by cases q)
        refine hR β val w' (post_kill hr hvid l1 hf hvk m1 hfk (fun B hB hBG => k3.block B hB fun q => ?_) k3.size k3.os k3.tape k3.output (fun i d ei => ?_)) hval
        · rw [m2] at q
          simp only [Value.ownBlock, Option.some.injEq] at q
          exact hBG q.symm
        · rcases view_set (h := ⟨Tr.set depth h.t k .dead, h.n⟩) hid ei with ⟨y1, y2⟩ | ⟨y1, y2⟩
          · subst y2
            have := view_get ei
            unfold view at ei
            rw [this] at ei; cases ei
          · rcases view_set (h := h) hkd y2 with ⟨x1, x2⟩ | ⟨x1, x2⟩
            · subst x2
              have := view_get y2
              unfold view at y2
              rw [this] at y2; cases y2
            · exact ⟨y1, x1, x2⟩
    · cases er
  · cases er
theorem okJ_some {e : Nat} {s : List Nat} {j : Option Nat} (hq : okJ c h e s j = true) : ∀ k, j = some k → getB c h k = some (.byt e s) ∧ c.floor ≤ k := by
  intro k hk
  subst hk
  unfold okJ at hq
  simp only at hq
  cases hb : Nat.ble c.floor k with
  | false => rw [hb] at hq; cases hq
  | true =>
    rw [hb] at hq
    simp only [cond] at hq
    split at hq
    · rename_i e' s' hg
      simp only [Bool.and_eq_true] at hq
      have h1 := Nat.eq_of_beq_eq_true hq.1
      have h2 := eqL_sound hq.2
      subst h1 h2
      exact ⟨hg, Nat.le_of_ble_eq_true hb⟩
    · cases hq
theorem ptr_arg {β : Bet} {id : Nat} {rest : List AV} {cargs : List Value} {L : Loc} (hv : VRs β (.ptr id 0 :: rest) cargs) (hL : β id = some L) (hb : L.base = 0) : ∃ cs, cargs = .pointer (some ⟨L.blk, 0, none⟩) :: cs ∧ VRs β rest cs := by
  simp only [VRs, VR] at hv
  obtain ⟨c', cs, rfl, ⟨L', h1, rfl⟩, h2⟩ := hv
  rw [hL] at h1; cases h1
  exact ⟨cs, by rw [hb], h2⟩
abbrev FnThere (P : Program) (g : Nat) : Prop := ∃ fn, P.funcs[g]? = some fn ∧ fn.body.isNone = false ∧ (fn.name == "runtime.NumGoroutine") = false
theorem bldM_ok {ws wb st ln T e : Nat} (f1 : FnThere P ws) (f2 : FnThere P wb) (f3 : FnThere P st) (f4 : FnThere P ln)
    (h1 : ∀ (b : Nat) (v : Value) (bs : List Value) (s : ByteArray) (w : World), Bl.At T e b v bs w → bs.length + s.size ≤ 140737488355328 → Calls P ws #[.pointer (some ⟨b, 0, none⟩), .string s] w fun en w' => en = .returned (.tuple #[.int .i64 s.size, .nilIface]) ∧ ∃ v', Bl.At T e b v' (bs ++ Lib.strCells s) w' ∧ (v'.ownBlock = v.ownBlock ∨ v'.ownBlock = some w.heap.size) ∧ Bl.Only (fun k => k = b ∨ v.ownBlock = some k) w w')
    (h2 : ∀ (b : Nat) (v : Value) (bs : List Value) (x : Int) (w : World), Bl.At T e b v bs w → bs.length + 1 ≤ 140737488355328 → Calls P wb #[.pointer (some ⟨b, 0, none⟩), .int .u8 x] w fun en w' => en = .returned .nilIface ∧ ∃ v', Bl.At T e b v' (bs ++ [.int .u8 x]) w' ∧ (v'.ownBlock = v.ownBlock ∨ ∃ g, v'.ownBlock = some g ∧ w.heap.size ≤ g) ∧ Bl.Only (fun k => k = b ∨ v.ownBlock = some k) w w')
    (h3 : ∀ (b : Nat) (v : Value) (l : List UInt8) (w : World), Bl.At T e b v (Lib.byteCells l) w → l ≠ [] → Calls P st #[.pointer (some ⟨b, 0, none⟩)] w fun en w' => en = .returned (.string ⟨l.toArray⟩) ∧ Bl.Only (fun k => v.ownBlock = some k) w w')
    (h4 : ∀ (b : Nat) (v : Value) (bs : List Value) (w : World), Bl.At T e b v bs w → Calls P ln #[.pointer (some ⟨b, 0, none⟩)] w fun en w' => en = .returned (.int .i64 bs.length) ∧ w' = w) : MemoOk P ng (bldM ws wb st ln T e) := by
  intro f args c h v h' er hc hw
  unfold bldM at er
  split at er
  · rename_i id rest
    split at er
    · rename_i T' s j hgt
      cases ht : Nat.beq T' T with
      | false => rw [ht] at er; cases er
      | true =>
        have := Nat.eq_of_beq_eq_true ht
        subst this
        rw [ht, cond_true] at er
        cases q1 : Nat.beq f ws with
        | true =>
          have := Nat.eq_of_beq_eq_true q1
          subst this
          rw [q1, cond_true] at er
          split at er
          · rename_i u
            rw [forceNat_eq, lenN_eq] at er
            refine FnDid.up (bldW_did hw hc hgt er f1 fun β w cargs hgb hv L b l1 l2 hat hlen => ?_)
            obtain ⟨cs, rfl, hv2⟩ := ptr_arg hv l1 l2
            simp only [VRs, VR] at hv2
            obtain ⟨_, _, rfl, ⟨bb, rfl, hbb⟩, rfl⟩ := hv2
            have hul : u.length = bb.size := by rw [← hbb]; simp
            refine (h1 L.blk b _ bb w hat (by simp only [List.length_map]; simp only [List.length_append] at hlen; omega)).mono ?_
            rintro en w' ⟨rfl, v', a1, a2, a3⟩
            refine ⟨_, rfl, ?_, v', ?_, a2.elim Or.inl (fun q => Or.inr ⟨_, q, Nat.le_refl _⟩), a3⟩
            · simp only [VR, VRs]
              exact ⟨_, rfl, _, [.nilIface], rfl, by rw [hul]; rfl, _, [], rfl, rfl, rfl⟩
            · rw [cells_str, hbb, ← List.map_append] at a1
              exact a1
          · cases er
        | false =>
          rw [q1, cond_false] at er
          cases q2 : Nat.beq f wb with
          | true =>
            have := Nat.eq_of_beq_eq_true q2
            subst this
            rw [q2, cond_true] at er
            split at er
            · rename_i n
              cases hn : Nat.blt n 256 with
              | false => rw [hn] at er; cases er
              | true =>
                rw [hn, cond_true] at er
                refine FnDid.up (bldW_did hw hc hgt er f2 fun β w cargs hgb hv L b l1 l2 hat hlen => ?_)
                obtain ⟨cs, rfl, hv2⟩ := ptr_arg hv l1 l2
                simp only [VRs, VR] at hv2
                obtain ⟨_, _, rfl, rfl, rfl⟩ := hv2
                refine (h2 L.blk b _ _ w hat (by simp only [List.length_map]; simp only [List.length_append] at hlen; simp at hlen; omega)).mono ?_
                rintro en w' ⟨rfl, v', a1, a2, a3⟩
                refine ⟨_, rfl, by simp only [VR], v', ?_, a2, a3⟩
                rw [List.map_append]
                exact a1
            · cases er
          | false =>
            rw [q2, cond_false] at er
            cases q3 : Nat.beq f st with
            | true =>
              have := Nat.eq_of_beq_eq_true q3
              subst this
              rw [q3, cond_true] at er
              split at er
              · refine FnDid.up (bldS_did hw hgt er f3 fun β w cargs hgb hv L b l1 l2 hne hlt hat => ?_)
                obtain ⟨cs, rfl, hv2⟩ := ptr_arg hv l1 l2
                simp only [VRs] at hv2
                subst hv2
                have e2 : (s.map Nat.toUInt8).map UInt8.toNat = s := by
                  rw [List.map_map]
                  conv => rhs; rw [← List.map_id s]
                  apply List.map_congr_left
                  intro x hx
                  have := hlt x hx
                  simp [Nat.toUInt8, UInt8.toNat_ofNat']
                  omega
                have e1 : Lib.byteCells (s.map Nat.toUInt8) = s.map fun n => Value.int .u8 (Int.ofNat n) := by
                  have e3 : Lib.byteCells (s.map Nat.toUInt8) = ((s.map Nat.toUInt8).map UInt8.toNat).map fun n => Value.int .u8 (Int.ofNat n) := by
                    unfold Lib.byteCells
                    simp only [List.map_map]
                    rfl
                  rw [e3, e2]
                rw [← e1] at hat
                refine (h3 L.blk b _ w hat (by simpa using hne)).mono ?_
                rintro en w' ⟨rfl, a⟩
                exact ⟨_, rfl, by simp only [VR]; exact ⟨_, rfl, e2⟩, a⟩
              · cases er
            | false =>
              rw [q3, cond_false] at er
              cases q4 : Nat.beq f ln with
              | false => rw [q4] at er; cases er
              | true =>
                have := Nat.eq_of_beq_eq_true q4
                subst this
                rw [q4, cond_true] at er
                split at er
                · cases hb : (Nat.ble c.floor id && okJ c h e s j) with
                  | false => rw [hb] at er; cases er
                  | true =>
                    rw [hb, cond_true, forceNat_eq, lenN_eq] at er
                    simp only [Bool.and_eq_true] at hb
                    simp only [Option.some.injEq, Prod.mk.injEq] at er
                    obtain ⟨rfl, rfl⟩ := er
                    refine FnDid.up ⟨Step.refl hw, f4, fun β w cargs hgb hr hv hfr R hR => ?_⟩
                    obtain ⟨L, bv, l1, l2, l3, l4⟩ := at_of hr hgt (Nat.le_of_ble_eq_true hb.1) (okJ_some hb.2)
                    obtain ⟨cs, rfl, hv2⟩ := ptr_arg hv l1 l2
                    simp only [VRs] at hv2
                    subst hv2
                    refine (h4 L.blk bv _ w l4).mono ?_
                    rintro en w' ⟨rfl, rfl⟩
                    exact hR β _ _ (Post.refl hr) (by simp [VR])
                · cases er
    · cases er
  · cases er
end
end Go.Proofs.YtaioinkajndjkaaGreatDoor.Ev