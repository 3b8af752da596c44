/- The example of the chapter: it returns true, whatever the world, and writes nothing old. -/
import Derived.Test.YtlocnfaeiacphaaGreatDoorSyG
import Derived.Test.YtlocnfaeiacphaaGreatDoorAwB
import Derived.Test.YtlocnfaeiacphaaGreatDoorShelf
set_option linter.unusedVariables false
set_option linter.unusedSimpArgs false
namespace Go.Proofs.YtlocnfaeiacphaaGreatDoor.Ev
open Go Go.RowKit
theorem mixed : Tryz.prog.follows .mixedOrders = true := by kernel_rfl
theorem noGoroutines : ∀ (f : Nat) (fn : Func), Tryz.prog.funcs[f]? = some fn → (fn.name == "runtime.NumGoroutine") = false := by
  have h : Tryz.prog.funcs.toList.all (fun fn => !(fn.name == "runtime.NumGoroutine")) = true := by kernel_rfl
  intro f fn hf
  have hm : fn ∈ Tryz.prog.funcs.toList := by
    obtain ⟨hlt, rfl⟩ := Array.getElem?_eq_some_iff.1 hf
    simp
  have := List.all_eq_true.1 h fn hm
  simpa using this
theorem catL_eq : ∀ (a b : List Nat), catL a b = a ++ b
  | [], b => rfl
  | x :: a, b => congrArg (x :: ·) (catL_eq a b)
theorem joinL_map (sep : List UInt8) : ∀ (xs : List (List UInt8)), joinL (sep.map UInt8.toNat) (xs.map fun x => x.map UInt8.toNat) = (Lib.join xs sep).map UInt8.toNat
  | [] => by rw [Lib.join_nil]; rfl
  | [x] => by rw [Lib.join_one]; rfl
  | x :: y :: r => by
    have ih := joinL_map sep (y :: r)
    simp only [List.map_cons] at ih ⊢
    show catL _ (catL _ (joinL _ (_ :: _))) = _
    rw [catL_eq, catL_eq, ih]
    rw [Lib.join_cons x, Lib.join_cons y]
    simp [Lib.joinTail, List.append_assoc]
theorem strsK_some : ∀ (n : Nat) (l : List AV) (r : List (List Nat)), strsK n l = some r → r.length = n ∧ ∀ (j : Nat) (s : List Nat), r[j]? = some s → l[j]? = some (AV.str s)
  | 0, l, r, h => by simp only [strsK] at h; cases h; exact ⟨rfl, fun j s q => by simp at q⟩
  | n + 1, [], r, h => by simp only [strsK] at h; cases h
  | n + 1, v :: l, r, h => by
    cases v with
    | str s =>
      simp only [strsK] at h
      cases hr : strsK n l with
      | none => rw [hr] at h; cases h
      | some r' =>
        rw [hr] at h; cases h
        obtain ⟨h1, h2⟩ := strsK_some n l r' hr
        refine ⟨by simp [h1], fun j s' q => ?_⟩
        cases j with
        | zero => simp at q; subst q; rfl
        | succ j => simpa using h2 j s' (by simpa using q)
    | _ => simp only [strsK] at h; cases h
theorem dropL_eq : ∀ (n : Nat) (l : List AV), dropL n l = l.drop n
  | 0, l => rfl
  | n + 1, [] => rfl
  | n + 1, x :: l => dropL_eq n l
/-- strings of a row of cells -/
theorem strs_of {β : Bet} {cur : Array Value} {vs : List AV} {base off : Nat} (hc : ∀ (i : Nat) (v : AV), vs[i]? = some v → ∃ c, cur[base + i]? = some c ∧ VR β v c) : ∀ (xs : List (List Nat)) (o : Nat), (∀ j s, xs[j]? = some s → vs[o + j]? = some (.str s)) → ∃ bs : List ByteArray, bs.map (fun b => b.data.toList.map UInt8.toNat) = xs ∧ ∀ j b, bs[j]? = some b → cur[base + o + j]? = some (.string b)
  | [], o, _ => ⟨[], rfl, fun j b q => by simp at q⟩
  | s :: xs, o, h => by
    obtain ⟨c, h1, h2⟩ := hc (o + 0) (.str s) (h 0 s rfl)
    simp only [VR] at h2
    obtain ⟨b, rfl, hb⟩ := h2
    obtain ⟨bs, h3, h4⟩ := strs_of (off := off) hc xs (o + 1) fun j s' q => by
      have := h (j + 1) s' (by simpa using q)
      rw [show o + 1 + j = o + (j + 1) by omega]; exact this
    refine ⟨b :: bs, by simp [hb, h3], fun j b' q => ?_⟩
    cases j with
    | zero =>
      simp at q; subst q
      have e : base + o + 0 = base + (o + 0) := by omega
      rw [e]; exact h1
    | succ j =>
      have := h4 j b' (by simpa using q)
      rw [show base + o + (j + 1) = base + (o + 1) + j by omega]; exact this
theorem join_fn : ∃ fn, Tryz.prog.funcs[65]? = some fn ∧ fn.body.isNone = false ∧ (fn.name == "runtime.NumGoroutine") = false := ⟨_, Tryz.func65, by kernel_rfl, by kernel_rfl⟩
theorem JM_ok : MemoOk Tryz.prog Tryz.prog.globals.size (JM 65) := by
  intro g args c h v h' q hc hw
  unfold JM at q
  cases hb : Nat.beq g 65 with
  | false => rw [hb] at q; cases q
  | true =>
    rw [hb] at q
    have e := Nat.eq_of_beq_eq_true hb
    subst e
    simp only [cond] at q
    have post : ∀ (β : Bet) (w w' : World) (h : H), HR c.floor β (view c h) w → Below w.heap.size w w' → Post c.floor h.n h.n β (view c h) w β (view c h) w' := fun β w w' h hr hbw => by
      refine ⟨Nat.le_refl _, Sub.refl _, fun id L q1 q2 => by (rw [q2] at q1; cases q1), ⟨fun id b q => ?_, hr.inj⟩, hbw.os, hbw.tape, hbw.output, hbw.size, fun B hB _ => hbw.block B hB, fun id L q1 q2 => by (rw [q2] at q1; cases q1), fun id b q => Or.inl ⟨b, q⟩⟩
      obtain ⟨L, q1, q2, q3⟩ := hr.at_ id b q
      exact ⟨L, q1, Nat.lt_of_lt_of_le q2 hbw.size, q3.mono (Sub.refl _) (hbw.block _ q2)⟩
    split at q
    · rename_i id off n cap sep
      cases n with
      | zero =>
        cases q
        refine FnDid.up ⟨Step.refl hw, join_fn, fun β w cargs hgb hr hv hfr R hR => ?_⟩
        simp only [VRs, VR] at hv
        obtain ⟨u, us, rfl, ⟨L, o, cp, h1, rfl, h2⟩, u2, us2, rfl, ⟨b, rfl, hb2⟩, rfl⟩ := hv
        refine (Tryz.strings_Join_none (some ⟨L.blk, o, none⟩) cp b w).mono fun e w' ⟨he, hbw⟩ => ?_
        subst he hbw
        exact hR β _ _ (post β _ _ _ hr (Below.refl _ _)) ⟨⟨#[]⟩, rfl, rfl⟩
      | succ n =>
        simp only at q
        split at q
        · rename_i vs hg
          split at q
          · rename_i xs hxs
            cases hl : (Nat.ble (lenN (joinL sep xs)) 1000000 && Nat.ble n 1000000) with
            | false => rw [hl] at q; cases q
            | true =>
              rw [hl] at q
              cases q
              simp only [Bool.and_eq_true] at hl
              have hl1 := Nat.le_of_ble_eq_true hl.1
              have hl2 := Nat.le_of_ble_eq_true hl.2
              rw [lenN_eq] at hl1
              rw [dropL_eq] at hxs
              obtain ⟨hxl, hxg⟩ := strsK_some _ _ _ hxs
              refine FnDid.up ⟨Step.refl hw, join_fn, fun β w cargs hgb hr hv hfr R hR => ?_⟩
              simp only [VRs, VR] at hv
              obtain ⟨u, us, rfl, ⟨L, o, cp, h1, rfl, hcp, hsz, ho, hcap⟩, u2, us2, rfl, ⟨b, rfl, hb2⟩, rfl⟩ := hv
              have ho' : o = L.base + off := by
                rcases ho with q | q
                · exact q
                · omega
              obtain ⟨L', q1, q2, cur, t, q3, q4, q5⟩ := hr.at_ id _ (view_cells hg)
              rw [h1] at q1; cases q1
              obtain ⟨bs, hbs1, hbs2⟩ := strs_of (off := off) q5 xs off fun j s q => by
                have := hxg j s q
                rwa [List.getElem?_drop] at this
              have hbl : bs.length = n + 1 := by
                have := congrArg List.length hbs1
                rw [List.length_map] at this
                omega
              have hjoin : joinL sep xs = (Lib.join (bs.map (·.data.toList)) b.data.toList).map UInt8.toNat := by
                rw [← joinL_map, hb2, ← hbs1]
                simp [List.map_map, Function.comp_def]
              have hlen : (Lib.join (bs.map (·.data.toList)) b.data.toList).length ≤ 140737488355328 := by
                have := congrArg List.length hjoin
                rw [List.length_map] at this
                omega
              have hcall := Tryz.strings_Join L.blk o cp bs b w (fun j x hj => by
                have := hbs2 j x hj
                unfold World.cell?
                simp only [q3]
                rw [ho']
                simpa using this) q2 (by omega) (by omega) hlen
              rw [hbl] at hcall
              refine hcall.mono fun e w' ⟨he, hbw⟩ => ?_
              subst he
              exact hR β _ _ (post β _ _ _ hr hbw) ⟨_, rfl, by rw [hjoin]⟩
          · cases q
        · cases q
    · cases q
      refine FnDid.up ⟨Step.refl hw, join_fn, fun β w cargs hgb hr hv hfr R hR => ?_⟩
      simp only [VRs, VR] at hv
      obtain ⟨u, us, rfl, rfl, u2, us2, rfl, ⟨b, rfl, hb2⟩, rfl⟩ := hv
      refine (Tryz.strings_Join_none none 0 b w).mono fun e w' ⟨he, hbw⟩ => ?_
      subst he hbw
      exact hR β _ _ (post β _ _ _ hr (Below.refl _ _)) ⟨⟨#[]⟩, rfl, rfl⟩
    · cases q
theorem ng4 : Tryz.prog.globals.size = 4 := by kernel_rfl
theorem noExt : ExtOk Tryz.prog [] := by
  intro f g hf
  cases hf
theorem awake_any (w : World) : Calls Tryz.prog 4 #[] w fun e w' => e = .returned (.bool true) ∧ Below w.heap.size w w' := by
  obtain ⟨h', hk⟩ := isTrue_some awake_true
  let β : Bet := fun g => if g < 4 then some ⟨g, 0, 0⟩ else none
  have hview : ∀ id b, view (top 4) ⟨.nil, 4⟩ id = some b → False := fun id b q => by
    have q1 := (getB_view q).1
    rw [Tr.get_nil] at q1; cases q1
  have hr : HR (top 4).floor β (view (top 4) ⟨.nil, 4⟩) w := ⟨fun id b q => (hview id b q).elim, fun i j b d L M q1 _ _ _ _ => (hview i b q1).elim⟩
  have hgb : GB Tryz.prog.globals.size β := fun g hg => ⟨0, by rw [ng4] at hg; simp [β, hg]⟩
  refine (ev_top (cargs := []) (h0 := ⟨.nil, 4⟩) mixed noGoroutines noExt JM_ok hk ?_ hgb hr (fun id hid => ?_) (by simp [VRs])).mono fun e w' ⟨β', val, h1, h2, _, h4⟩ => ?_
  · exact ⟨fun id _ => Tr.get_nil _, by show (4 : Nat) ≤ _; omega⟩
  · have hid' : 4 ≤ id := hid
    simp [β]; omega
  · simp only [VR] at h2
    subst h2
    exact ⟨h1, h4⟩
end Go.Proofs.YtlocnfaeiacphaaGreatDoor.Ev
