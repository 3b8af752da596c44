/- Contracts of Keyword and Ident, of the program and of the reference. -/
import Derived.Test.YtffmeglcakcpdaaDoorWalkD
set_option linter.unusedVariables false
namespace Go.Proofs.YtffmeglcakcpdaaDoor
open Go.RowKit

/-- the keywords -/
def kws : List ByteArray := [⟨#[99, 108, 97, 115, 115]⟩, ⟨#[101, 120, 116, 101, 110, 100, 115]⟩, ⟨#[118, 97, 114]⟩, ⟨#[100, 101, 102]⟩, ⟨#[115, 116, 97, 116, 105, 99]⟩, ⟨#[105, 102]⟩, ⟨#[101, 108, 115, 101]⟩, ⟨#[119, 104, 105, 108, 101]⟩, ⟨#[116, 114, 121]⟩, ⟨#[99, 97, 116, 99, 104]⟩, ⟨#[116, 104, 114, 111, 119]⟩, ⟨#[114, 101, 116, 117, 114, 110]⟩, ⟨#[110, 101, 119]⟩, ⟨#[110, 117, 108, 108]⟩, ⟨#[116, 104, 105, 115]⟩, ⟨#[105, 110, 112, 117, 116]⟩, ⟨#[105, 110, 116]⟩]
def isKw (s : ByteArray) : Bool := kws.any fun k => s.data.toList == k.data.toList
def kwVals : Array Value := #[.string ⟨#[99, 108, 97, 115, 115]⟩, .string ⟨#[101, 120, 116, 101, 110, 100, 115]⟩, .string ⟨#[118, 97, 114]⟩, .string ⟨#[100, 101, 102]⟩, .string ⟨#[115, 116, 97, 116, 105, 99]⟩, .string ⟨#[105, 102]⟩, .string ⟨#[101, 108, 115, 101]⟩, .string ⟨#[119, 104, 105, 108, 101]⟩, .string ⟨#[116, 114, 121]⟩, .string ⟨#[99, 97, 116, 99, 104]⟩, .string ⟨#[116, 104, 114, 111, 119]⟩, .string ⟨#[114, 101, 116, 117, 114, 110]⟩, .string ⟨#[110, 101, 119]⟩, .string ⟨#[110, 117, 108, 108]⟩, .string ⟨#[116, 104, 105, 115]⟩, .string ⟨#[105, 110, 112, 117, 116]⟩, .string ⟨#[105, 110, 116]⟩]

/-- what the package-level variables hold -/
structure Env (w : World) : Prop where
  tab : Lib.TabIs Tryd.prog w "internal/strconv.uint64pow10" .u64 Lib.pow10Tab
  kw : w.var? Tryd.prog "dataflow/lex.keywords" = some kwVals

theorem var_keeps {P : Program} {n : String} {cs : Array Value} {w w' : World} (h : w.var? P n = some cs) (hb : Below w.heap.size w w') : w'.var? P n = some cs := by
  unfold World.var? at *
  cases hg : P.globalNamed n with
  | none => simp [hg] at h
  | some g =>
    simp only [hg, Option.bind_some] at h ⊢
    by_cases hlt : g < w.heap.size
    · rw [hb.block g hlt]; exact h
    · rw [Array.getElem?_eq_none (by omega)] at h; cases h
theorem Env.below {w w' : World} (h : Env w) (hb : Below w.heap.size w w') : Env w' := ⟨var_keeps h.tab hb, var_keeps h.kw hb⟩
theorem gKw : Tryd.prog.globalNamed "dataflow/lex.keywords" = some 1 := by kernel_rfl
theorem var_block {P : Program} {n : String} {g : Nat} {cs : Array Value} {w : World} (hg : P.globalNamed n = some g) (h : w.var? P n = some cs) : ∃ t fr, w.heap[g]? = some (.cells cs t fr) := by
  unfold World.var? at h
  simp only [hg, Option.bind_some] at h
  split at h
  · rename_i c t fr e
    obtain rfl := Option.some.inj h
    exact ⟨t, fr, e⟩
  · cases h

theorem getD_at {α : Type} {l : List α} {k : Nat} (d : α) (h : k < l.length) : l.getD k d = l[k] := by simp [h]
def isKwTo (s : ByteArray) (k : Nat) : Bool := (kws.take k).any fun x => s.data.toList == x.data.toList
theorem isKwTo_succ (s : ByteArray) (k : Nat) (h : k < 17) : isKwTo s (k + 1) = (isKwTo s k || s.data.toList == (kws.getD k default).data.toList) := by
  unfold isKwTo
  rw [List.take_succ_eq_append_getElem (by simpa [kws] using h)]
  rw [List.any_append, getD_at _ (show k < kws.length by simpa [kws] using h)]
  simp only [List.any_cons, List.any_nil, Bool.or_false]
theorem isKwTo_all (s : ByteArray) : isKwTo s 17 = isKw s := rfl
theorem isKw_of {s : ByteArray} {k : Nat} (h : k < 17) (e : (s.data.toList == (kws.getD k default).data.toList) = true) : isKw s = true := by
  unfold isKw
  rw [List.any_eq_true]
  exact ⟨kws.getD k default, by rw [getD_at _ (show k < kws.length by simpa [kws] using h)]; exact List.getElem_mem _, e⟩
theorem idxKw_fin : ∀ k : Fin 17, ∀ w, (Instr.index 62 (.agg kwVals) (.int .i64 (k.val : Int))).run Tryd.prog w = .ok (.string (kws.getD k.val default)) w
  | ⟨0, _⟩ => fun _ => by kernel_rfl
  | ⟨1, _⟩ => fun _ => by kernel_rfl
  | ⟨2, _⟩ => fun _ => by kernel_rfl
  | ⟨3, _⟩ => fun _ => by kernel_rfl
  | ⟨4, _⟩ => fun _ => by kernel_rfl
  | ⟨5, _⟩ => fun _ => by kernel_rfl
  | ⟨6, _⟩ => fun _ => by kernel_rfl
  | ⟨7, _⟩ => fun _ => by kernel_rfl
  | ⟨8, _⟩ => fun _ => by kernel_rfl
  | ⟨9, _⟩ => fun _ => by kernel_rfl
  | ⟨10, _⟩ => fun _ => by kernel_rfl
  | ⟨11, _⟩ => fun _ => by kernel_rfl
  | ⟨12, _⟩ => fun _ => by kernel_rfl
  | ⟨13, _⟩ => fun _ => by kernel_rfl
  | ⟨14, _⟩ => fun _ => by kernel_rfl
  | ⟨15, _⟩ => fun _ => by kernel_rfl
  | ⟨16, _⟩ => fun _ => by kernel_rfl
  | ⟨n + 17, h⟩ => absurd h (by omega)
theorem idxKw (k : Nat) (h : k < 17) (w : World) : (Instr.index 62 (.agg kwVals) (.int .i64 (k : Int))).run Tryd.prog w = .ok (.string (kws.getD k default)) w := idxKw_fin ⟨k, h⟩ w

set_option maxHeartbeats 1000000 in
theorem keyword_any (s : ByteArray) (w : World) (hE : Env w) :
    Calls Tryd.prog 49 #[.string s] w fun e w' => e = .returned (.bool (isKw s)) ∧ w = w' := by
  obtain ⟨tt, fr, hg⟩ := var_block gKw hE.kw
  clear hE
  go_enter Tryd.func49, Tryd.ntmps49
  go_wp2_with (refine wpList_load_row rfl 62 _ rfl 1 rfl tt _ fr _ hg Tryd.underlying62 rfl (by kernel_rfl) ?_)
  clear hg
  generalize hkv : kwVals = kv
  have HV := Lib.hid hkv.symm
  clear hkv
  go_loop [6] (fun i => ∃ k : Nat, k ≤ 17 ∧ i = .int .i64 k ∧ Hid (isKwTo s k = false)) (fun i => 17 - (intOf i).toNat)
  case atStart => exact ⟨0, Nat.zero_le _, rfl, rfl⟩
  case round =>
    obtain ⟨k, hk, rfl, HK⟩ := hrel
    by_cases hlt : k < 17
    · have hi := fun w => idxKw k hlt w
      rw [← HV.out] at hi
      have HS := Lib.hid (isKwTo_succ s k hlt)
      have HO := Lib.hid (@isKw_of s k hlt)
      generalize kws.getD k default = kw at *
      cases he : (s.toList == kw.toList)
      · go_wp2_with fail
        go_round
        case rel => exact ⟨k + 1, by omega, by go_num, by rw [Hid, HS.out, HK.out, ← Lib.toList_data, ← Lib.toList_data, he]; rfl⟩
        case measure => simp [intOf]; omega
      · go_wp2_with fail
        go_ret
        exact ⟨ret_bool (HO.out (by rw [← Lib.toList_data, ← Lib.toList_data]; exact he)).symm, rfl⟩
    · obtain rfl : k = 17 := by omega
      go_wp2_with fail
      go_ret
      exact ⟨ret_bool (by rw [← isKwTo_all, HK.out]), rfl⟩
end Go.Proofs.YtffmeglcakcpdaaDoor
