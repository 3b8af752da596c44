/- What is answered by itself holds: the functions without a body, strings.Join, strings.Builder, sorted keys. -/
import Derived.Test.YtaioinkajndjkaaGreatDoorProg
import Derived.Test.YtaioinkajndjkaaGreatDoorMem
import Derived.Test.YtaioinkajndjkaaGreatDoorShelf
import Derived.Laws.Externs
import Derived.Lib.Bytealg
import Derived.KernelRfl
set_option linter.unusedVariables false
set_option linter.unusedSimpArgs false
namespace Go.Proofs.YtaioinkajndjkaaGreatDoor.Ev
open Go Go.RowKit Go.Shelf
theorem mixed : Tryz.prog.follows .mixedOrders = true := by kernel_rfl
theorem noGoroutines : ∀ (f : Nat) (fn : Func), Tryz.prog.funcs[f]? = some fn → (fn.name == "runtime.NumGoroutine") = false := by
  have h : Tryz.prog.funcs.toList.all (fun fn => !(fn.name == "runtime.NumGoroutine")) = true := by kernel_rfl
  intro f fn hf
  have hm : fn ∈ Tryz.prog.funcs.toList := by
    obtain ⟨hlt, rfl⟩ := Array.getElem?_eq_some_iff.1 hf
    simp
  have := List.all_eq_true.1 h fn hm
  simpa using this
theorem catL_eq : ∀ (a b : List Nat), catL a b = a ++ b
  | [], b => rfl
  | x :: a, b => congrArg (x :: ·) (catL_eq a b)
theorem joinL_map (sep : List UInt8) : ∀ (xs : List (List UInt8)), joinL (sep.map UInt8.toNat) (xs.map fun x => x.map UInt8.toNat) = (Lib.join xs sep).map UInt8.toNat
  | [] => by rw [Lib.join_nil]; rfl
  | [x] => by rw [Lib.join_one]; rfl
  | x :: y :: r => by
    have ih := joinL_map sep (y :: r)
    simp only [List.map_cons] at ih ⊢
    show catL _ (catL _ (joinL _ (_ :: _))) = _
    rw [catL_eq, catL_eq, ih]
    rw [Lib.join_cons x, Lib.join_cons y]
    simp [Lib.joinTail, List.append_assoc]
theorem strsK_some : ∀ (n : Nat) (l : List AV) (r : List (List Nat)), strsK n l = some r → r.length = n ∧ ∀ (j : Nat) (s : List Nat), r[j]? = some s → l[j]? = some (AV.str s)
  | 0, l, r, h => by simp only [strsK] at h; cases h; exact ⟨rfl, fun j s q => by simp at q⟩
  | n + 1, [], r, h => by simp only [strsK] at h; cases h
  | n + 1, v :: l, r, h => by
    cases v with
    | str s =>
      simp only [strsK] at h
      cases hr : strsK n l with
      | none => rw [hr] at h; cases h
      | some r' =>
        rw [hr] at h; cases h
        obtain ⟨h1, h2⟩ := strsK_some n l r' hr
        refine ⟨by simp [h1], fun j s' q => ?_⟩
        cases j with
        | zero => simp at q; subst q; rfl
        | succ j => simpa using h2 j s' (by simpa using q)
    | _ => simp only [strsK] at h; cases h
theorem dropL_eq : ∀ (n : Nat) (l : List AV), dropL n l = l.drop n
  | 0, l => rfl
  | n + 1, [] => rfl
  | n + 1, x :: l => dropL_eq n l
/-- strings of a row of cells -/
theorem strs_of {β : Bet} {cur : Array Value} {vs : List AV} {base off : Nat} (hc : ∀ (i : Nat) (v : AV), vs[i]? = some v → ∃ c, cur[base + i]? = some c ∧ VR β v c) : ∀ (xs : List (List Nat)) (o : Nat), (∀ j s, xs[j]? = some s → vs[o + j]? = some (.str s)) → ∃ bs : List ByteArray, bs.map (fun b => b.data.toList.map UInt8.toNat) = xs ∧ ∀ j b, bs[j]? = some b → cur[base + o + j]? = some (.string b)
  | [], o, _ => ⟨[], rfl, fun j b q => by simp at q⟩
  | s :: xs, o, h => by
    obtain ⟨c, h1, h2⟩ := hc (o + 0) (.str s) (h 0 s rfl)
    simp only [VR] at h2
    obtain ⟨b, rfl, hb⟩ := h2
    obtain ⟨bs, h3, h4⟩ := strs_of (off := off) hc xs (o + 1) fun j s' q => by
      have := h (j + 1) s' (by simpa using q)
      rw [show o + 1 + j = o + (j + 1) by omega]; exact this
    refine ⟨b :: bs, by simp [hb, h3], fun j b' q => ?_⟩
    cases j with
    | zero =>
      simp at q; subst q
      have e : base + o + 0 = base + (o + 0) := by omega
      rw [e]; exact h1
    | succ j =>
      have := h4 j b' (by simpa using q)
      rw [show base + o + (j + 1) = base + (o + 1) + j by omega]; exact this
theorem join_fn : ∃ fn, Tryz.prog.funcs[279]? = some fn ∧ fn.body.isNone = false ∧ (fn.name == "runtime.NumGoroutine") = false := ⟨_, Tryz.func279, by kernel_rfl, by kernel_rfl⟩
theorem JM_ok : MemoOk Tryz.prog Tryz.prog.globals.size (JM 279) := by
  intro g args c h v h' q hc hw
  unfold JM at q
  cases hb : Nat.beq g 279 with
  | false => rw [hb] at q; cases q
  | true =>
    rw [hb] at q
    have e := Nat.eq_of_beq_eq_true hb
    subst e
    simp only [cond] at q
    have post : ∀ (β : Bet) (w w' : World) (h : H), HR c.floor β (view c h) w → Below w.heap.size w w' → Post c.floor h.n h.n β (view c h) w β (view c h) w' := fun β w w' h hr hbw => by
      refine ⟨Nat.le_refl _, Sub.refl _, fun id L q1 q2 => by (rw [q2] at q1; cases q1), ⟨fun id b q => ?_, hr.inj⟩, hbw.os, hbw.tape, hbw.output, hbw.size, fun B hB _ => hbw.block B hB, fun id L q1 q2 => by (rw [q2] at q1; cases q1), fun id b q => Or.inl ⟨b, q⟩⟩
      obtain ⟨L, q1, q2, q3⟩ := hr.at_ id b q
      exact ⟨L, q1, Nat.lt_of_lt_of_le q2 hbw.size, q3.mono (Sub.refl _) (hbw.block _ q2)⟩
    split at q
    · rename_i id off n cap sep
      cases n with
      | zero =>
        cases q
        refine FnDid.up ⟨Step.refl hw, join_fn, fun β w cargs hgb hr hv hfr R hR => ?_⟩
        simp only [VRs, VR] at hv
        obtain ⟨u, us, rfl, ⟨L, o, cp, h1, rfl, h2⟩, u2, us2, rfl, ⟨b, rfl, hb2⟩, rfl⟩ := hv
        refine (Tryz.strings_Join_none (some ⟨L.blk, o, none⟩) cp b w).mono fun e w' ⟨he, hbw⟩ => ?_
        subst he hbw
        exact hR β _ _ (post β _ _ _ hr (Below.refl _ _)) ⟨⟨#[]⟩, rfl, rfl⟩
      | succ n =>
        simp only at q
        split at q
        · rename_i vs hg
          split at q
          · rename_i xs hxs
            cases hl : (Nat.ble (lenN (joinL sep xs)) 1000000 && Nat.ble n 1000000) with
            | false => rw [hl] at q; cases q
            | true =>
              rw [hl] at q
              cases q
              simp only [Bool.and_eq_true] at hl
              have hl1 := Nat.le_of_ble_eq_true hl.1
              have hl2 := Nat.le_of_ble_eq_true hl.2
              rw [lenN_eq] at hl1
              rw [dropL_eq] at hxs
              obtain ⟨hxl, hxg⟩ := strsK_some _ _ _ hxs
              refine FnDid.up ⟨Step.refl hw, join_fn, fun β w cargs hgb hr hv hfr R hR => ?_⟩
              simp only [VRs, VR] at hv
              obtain ⟨u, us, rfl, ⟨L, o, cp, h1, rfl, hcp, hsz, ho, hcap⟩, u2, us2, rfl, ⟨b, rfl, hb2⟩, rfl⟩ := hv
              have ho' : o = L.base + off := by
                rcases ho with q | q
                · exact q
                · omega
              obtain ⟨L', q1, q2, cur, t, q3, q4, q5⟩ := hr.at_ id _ (view_cells hg)
              rw [h1] at q1; cases q1
              obtain ⟨bs, hbs1, hbs2⟩ := strs_of (off := off) q5 xs off fun j s q => by
                have := hxg j s q
                rwa [List.getElem?_drop] at this
              have hbl : bs.length = n + 1 := by
                have := congrArg List.length hbs1
                rw [List.length_map] at this
                omega
              have hjoin : joinL sep xs = (Lib.join (bs.map (·.data.toList)) b.data.toList).map UInt8.toNat := by
                rw [← joinL_map, hb2, ← hbs1]
                simp [List.map_map, Function.comp_def]
              have hlen : (Lib.join (bs.map (·.data.toList)) b.data.toList).length ≤ 140737488355328 := by
                have := congrArg List.length hjoin
                rw [List.length_map] at this
                omega
              have hcall := Tryz.strings_Join L.blk o cp bs b w (fun j x hj => by
                have := hbs2 j x hj
                unfold World.cell?
                simp only [q3]
                rw [ho']
                simpa using this) q2 (by omega) (by omega) hlen
              rw [hbl] at hcall
              refine hcall.mono fun e w' ⟨he, hbw⟩ => ?_
              subst he
              exact hR β _ _ (post β _ _ _ hr hbw) ⟨_, rfl, by rw [hjoin]⟩
          · cases q
        · cases q
    · cases q
      refine FnDid.up ⟨Step.refl hw, join_fn, fun β w cargs hgb hr hv hfr R hR => ?_⟩
      simp only [VRs, VR] at hv
      obtain ⟨u, us, rfl, rfl, u2, us2, rfl, ⟨b, rfl, hb2⟩, rfl⟩ := hv
      refine (Tryz.strings_Join_none none 0 b w).mono fun e w' ⟨he, hbw⟩ => ?_
      subst he hbw
      exact hR β _ _ (post β _ _ _ hr (Below.refl _ _)) ⟨⟨#[]⟩, rfl, rfl⟩
    · cases q
theorem get_bang {s : ByteArray} {k : Nat} {b : UInt8} (h : s.data.toList[k]? = some b) : s[k]! = b := by
  have h1 : s.data[k]? = some b := by simpa using h
  obtain ⟨hlt, he⟩ := Array.getElem?_eq_some_iff.1 h1
  have hlt' : k < s.size := hlt
  rw [getElem!_pos s k hlt']
  exact he
theorem idxB_find {s : ByteArray} {c : Nat} (hc : c ≤ 255) : ∀ (l : List UInt8) (i : Nat), (∀ j, l[j]? = s.data.toList[i + j]?) → idxB c (l.map UInt8.toNat) i = match (List.range' i l.length).find? (fun k => s[k]! == c.toUInt8) with | some k => (k : Int) | none => -1
  | [], i, _ => rfl
  | b :: l, i, h => by
    have h0 := h 0
    simp only [List.getElem?_cons_zero, Nat.add_zero] at h0
    have hb := get_bang h0.symm
    have ih := idxB_find hc l (i + 1) (fun j => by have := h (j + 1); simp only [List.getElem?_cons_succ] at this; rw [this]; congr 1; omega)
    simp only [List.map_cons, idxB, List.length_cons, List.range'_succ, List.find?_cons]
    have hcn : c.toUInt8.toNat = c := by simp [Nat.toUInt8, UInt8.toNat_ofNat']; omega
    cases hq : Nat.beq b.toNat c with
    | true =>
      have e := Nat.eq_of_beq_eq_true hq
      have : (s[i]! == c.toUInt8) = true := by
        rw [hb, beq_iff_eq]
        exact UInt8.toNat_inj.1 (by rw [hcn]; exact e)
      rw [this]; rfl
    | false =>
      have : (s[i]! == c.toUInt8) = false := by
        rw [hb, beq_eq_false_iff_ne]
        intro q
        rw [q, hcn] at hq
        simp at hq
      rw [this]; exact ih
theorem cmpN_bytes : ∀ (l m : List UInt8), cmpN (l.map UInt8.toNat) (m.map UInt8.toNat) = Lib.compareBytes l m
  | [], [] => rfl
  | [], _ :: _ => rfl
  | _ :: _, [] => rfl
  | a :: l, b :: m => by
    simp only [List.map_cons, cmpN, Lib.compareBytes]
    cases hq : Nat.beq a.toNat b.toNat with
    | true =>
      have e := UInt8.toNat_inj.1 (Nat.eq_of_beq_eq_true hq)
      subst e
      have h : ¬ a < a := by rw [UInt8.lt_iff_toNat_lt]; omega
      simp only [cond]
      rw [if_neg h, if_neg h]
      exact cmpN_bytes l m
    | false =>
      have e : a.toNat ≠ b.toNat := fun q => by rw [q] at hq; simp at hq
      simp only [cond]
      cases hl : Nat.blt a.toNat b.toNat with
      | true =>
        rw [Nat.blt_eq] at hl
        rw [if_pos (UInt8.lt_iff_toNat_lt.2 hl)]
      | false =>
        have : ¬ a.toNat < b.toNat := fun q => by rw [← Nat.blt_eq, hl] at q; cases q
        rw [if_neg (fun q => this (UInt8.lt_iff_toNat_lt.1 q)), if_pos (UInt8.lt_iff_toNat_lt.2 (by omega))]
theorem extOk : ExtOk Tryz.prog X0 := by
  intro f g hf args v hg β cargs w hv
  unfold X0 extOf at hf
  cases hb : Nat.beq 646 f with
  | false =>
    rw [hb] at hf
    simp only [cond, extOf] at hf
    cases hb2 : Nat.beq 348 f with
    | false => rw [hb2] at hf; cases hf
    | true =>
      rw [hb2] at hf
      simp only [cond, Option.some.injEq] at hf
      have e := Nat.eq_of_beq_eq_true hb2
      subst e hf
      unfold gCmp at hg
      split at hg
      · rename_i a b
        simp only [forceInt_eq, Option.some.injEq] at hg
        subst hg
        simp only [VRs, VR] at hv
        obtain ⟨u, us, rfl, ⟨x, rfl, rfl⟩, u2, us2, rfl, ⟨y, rfl, rfl⟩, rfl⟩ := hv
        refine ⟨.int .i64 (Lib.compareBytes x.data.toList y.data.toList), ?_, ?_⟩
        · rw [run_callFunc_extern (fn := Tryz.f348) (e := Extern.BytealgCompare.compare) Tryz.func348 (by kernel_rfl) (by kernel_rfl) (by kernel_rfl) (by kernel_rfl)]
          have := Lib.run_compareString (P := Tryz.prog) x y w
          rw [show ((Value.string x :: [Value.string y]).toArray : Array Value) = #[.string x, .string y] from rfl, this]
          rfl
        · simp only [VR]
          rw [cmpN_bytes]
      · cases hg
  | true =>
    rw [hb] at hf
    simp only [cond, Option.some.injEq] at hf
    have e := Nat.eq_of_beq_eq_true hb
    subst e hf
    unfold gIB at hg
    split at hg
    · rename_i s c
      cases hc : Nat.ble c 255 with
      | false => rw [hc] at hg; cases hg
      | true =>
        rw [hc] at hg
        simp only [cond, forceInt_eq, Option.some.injEq] at hg
        subst hg
        simp only [VRs, VR] at hv
        obtain ⟨u, us, rfl, ⟨b, rfl, rfl⟩, u2, us2, rfl, rfl, rfl⟩ := hv
        have hc' := Nat.le_of_ble_eq_true hc
        refine ⟨.int .i64 (firstIdx b c.toUInt8), ?_, ?_⟩
        · rw [run_callFunc_extern (fn := Tryz.f646) (e := Extern.BytealgIndexByte.indexByte) Tryz.func646 (by kernel_rfl) (by kernel_rfl) (by kernel_rfl) (by kernel_rfl)]
          have := run_indexByte_string (P := Tryz.prog) b (Int.ofNat c) w
          rw [show ((Value.string b :: [Value.int .u8 (Int.ofNat c)]).toArray : Array Value) = #[.string b, .int .u8 (Int.ofNat c)] from rfl, this]
          rfl
        · have := idxB_find (s := b) hc' b.data.toList 0 (by simp)
          simp only [VR]
          rw [this]
          unfold firstIdx
          rw [List.range_eq_range']
          have hl : b.data.toList.length = b.size := by simp
          rw [hl]
          cases (List.range' 0 b.size).find? (fun k => b[k]! == c.toUInt8) <;> rfl
    · cases hg
/-! strings.Builder -/
theorem lays166 : Go.Proofs.Lays.n166 Tryz.prog Tryz.lays156_ren := { Tryz.lays156 with }
def renW : Go.Shelf.Ren := ⟨fun | 167 => 280 | n => Tryz.lays156_ren.f n, fun n => Tryz.lays156_ren.t n, fun n => n⟩
theorem lays167 : Go.Proofs.Lays.n167 Tryz.prog renW := { Tryz.lays156 with
  f167 := Tryz.func280.trans (congrArg some (by kernel_rfl))
  f240 := Tryz.func289.trans (congrArg some (by kernel_rfl))
  f276 := Tryz.func435.trans (congrArg some (by kernel_rfl))
  t5 := Tryz.underlying5
  a5 := Tryz.isAgg5
  z5 := Tryz.sizeOf5
  v5 := Tryz.zeroValue5 }
theorem extra167 : Builder.Extra Tryz.prog renW := {
  sizeBuilder := by kernel_rfl
  liesBuilder := by kernel_rfl
  t5 := Tryz.underlying5
  a5 := Tryz.isAgg5
  z5 := Tryz.sizeOf5
  v5 := Tryz.zeroValue5
  infoByte := by kernel_rfl
  cellsByte := by kernel_rfl
  sizeByte := by kernel_rfl
  neB5 := by decide }
theorem fn_ws : FnThere Tryz.prog 169 := ⟨_, Tryz.func169, by kernel_rfl, by kernel_rfl⟩
theorem fn_wb : FnThere Tryz.prog 280 := ⟨_, Tryz.func280, by kernel_rfl, by kernel_rfl⟩
theorem fn_st : FnThere Tryz.prog 171 := ⟨_, Tryz.func171, by kernel_rfl, by kernel_rfl⟩
theorem fn_ln : FnThere Tryz.prog 282 := ⟨_, Tryz.func282, by kernel_rfl, by kernel_rfl⟩
theorem bldOk : MemoOk Tryz.prog Tryz.prog.globals.size (bldM 169 280 171 282 329 5) :=
  bldM_ok fn_ws fn_wb fn_st fn_ln (fun b v bs s w h hl => Bl.writeString lays166 Tryz.Builder_Extra_156 b v bs s w h hl) (fun b v bs x w h hl => Bl.writeByte lays167 extra167 b v bs x w h hl)
    (fun b v l w h h0 => Bl.string_some Tryz.lays169 Tryz.Builder_Extra_169 b v l w h h0) (fun b v bs w h => Bl.len Tryz.lays170 b v bs w h)
/-! sorted keys -/
open Go.Maps Go.Sort
theorem fn_keys : FnThere Tryz.prog 328 := ⟨_, Tryz.func328, by kernel_rfl, by kernel_rfl⟩
theorem fn_sorted : FnThere Tryz.prog 327 := ⟨_, Tryz.func327, by kernel_rfl, by kernel_rfl⟩
theorem keysOk : MemoOk Tryz.prog Tryz.prog.globals.size (keysM 328 478) :=
  keysM_ok fn_keys (fun w b => callsIn_wide.1 (AnyZI.keys_in Tryz.keysA Fence.wide 5 trivial rfl (some b) w))
theorem sortsA (m : Nat) : AnyZI.SortsIn Tryz.prog Tryz.sortedA_ren Fence.wide m :=
  ⟨fun blk off cap ss W hH hblk hsz => callsIn_wide.2 (AnyM.slices_Sort_int Tryz.sortA blk off cap ss W hH hblk hsz),
   fun p cap W => callsIn_wide.2 (AnyM.slices_Sort_int_none Tryz.sortA p cap W)⟩
theorem sortedOk : MemoOk Tryz.prog Tryz.prog.globals.size (sortedM 327 478) :=
  sortedM_ok (kt := 3) fn_sorted Tryz.underlying3 (fun w Bm b nn D0 R hBm hcell hown h1 h2 => by
    have hseq : SeqGives Fence.wide 2 Tryz.prog 478 #[.pointer (some ⟨Bm, 0, none⟩)] encZ (fun ss => ss.Perm (intKeys D0)) (Maps.size D0) w :=
      AnyZI.keys_gives (ρ := Tryz.keysA_ren) { Tryz.keysA with } Fence.wide _ trivial rfl (by omega) Bm b nn _ _ hBm hcell hown
    have cS := AnyZI.sorted_in Tryz.sortedA Fence.wide 5 trivial trivial trivial trivial rfl (by omega) (sortsA _) (enters_of Tryz.func210 (by kernel_rfl) rfl) 478 #[.pointer (some ⟨Bm, 0, none⟩)] trivial (enters_of Tryz.func478 (by kernel_rfl) rfl) _ _ h1 h2 _ hseq
    exact (callsIn_wide.1 cS).mono fun e w' ⟨v, ss, h3, h4, h5, h6, h7⟩ => ⟨v, ss, h3, h4, h5, h6, h7⟩)
theorem baseOk : MemoOk Tryz.prog Tryz.prog.globals.size Mb := orM_ok JM_ok (orM_ok bldOk (orM_ok sortedOk keysOk))
end Go.Proofs.YtaioinkajndjkaaGreatDoor.Ev