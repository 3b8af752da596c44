/- Reference: names, rows of a unit. -/
import Derived.Test.YtmdceifbbmnfgaaGreatDoorTfS
import Derived.Test.YtmdceifbbmnfgaaGreatDoorSyI
set_option linter.unusedVariables false
set_option linter.unusedSimpArgs false
set_option maxHeartbeats 4000000
namespace Go.Proofs.YtmdceifbbmnfgaaGreatDoor.Ev
open Go
open Classical
variable {c : C} {h : H} {K : AV → H → Prop}
theorem letter_ev {n : Int} (k : ∀ b, K (.bool b) h) : Gv Tryz.prog X0 Mx c 267 [.int .u8 n] h K := by
 have hnt : (17 : Nat) ≤ 1000000 := by decide
 refine gv_fn x_letter (Mx_no rfl _ _ _) (by simp) hnt ?_
 unfold s_letter SR.g SR.o
 repeat' (first | refine Yu ?_ | refine Yp ?_ | (refine Yq ?_ ?_ <;> intro hc <;> try first | contradiction | omega) | refine Yx ?_ | refine Yy ?_)
 all_goals exact ⟨Or.inr rfl, _, rfl, k _⟩
theorem digit_ev {n : Int} (k : ∀ b, K (.bool b) h) : Gv Tryz.prog X0 Mx c 282 [.int .u8 n] h K := by
 have hnt : (9 : Nat) ≤ 1000000 := by decide
 refine gv_fn x_digit (Mx_no rfl _ _ _) (by simp) hnt ?_
 unfold s_digit SR.g SR.o
 repeat' (first | refine Yu ?_ | refine Yp ?_ | (refine Yq ?_ ?_ <;> intro hc <;> try first | contradiction | omega) | refine Yx ?_ | refine Yy ?_)
 all_goals exact ⟨Or.inr rfl, _, rfl, k _⟩
theorem part_ev {n : Int} (k : ∀ b, K (.bool b) h) : Gv Tryz.prog X0 Mx c 269 [.int .u8 n] h K := by
 have hnt : (13 : Nat) ≤ 1000000 := by decide
 refine gv_fn x_part (Mx_no rfl _ _ _) (by simp) hnt ?_
 unfold s_part SR.g SR.m SR.o
 repeat' (first | refine Yu ?_ | refine Yp ?_ | (refine Yq ?_ ?_ <;> intro hc <;> try first | contradiction | omega) | (refine wo_call rfl rfl (letter_ev fun b => ?_); cases b) | (refine wo_call rfl rfl (digit_ev fun b => ?_); cases b) | refine Yx ?_ | refine Yy ?_)
 all_goals exact ⟨Or.inr rfl, _, rfl, k _⟩
theorem Natural_ev {s : List Nat} (hl : s.length ≤ 9223372036854775806) (k : ∀ b, K (.bool b) h) : Gv Tryz.prog X0 Mx c 155 [.str s] h K := by
 have hnt : (33 : Nat) ≤ 1000000 := by decide
 refine gv_fn x_Natural (Mx_no rfl _ _ _) (by simp) hnt ?_
 unfold s_Natural SR.g SR.o
 repeat' (first | refine Yu ?_ | refine Yp ?_ | refine za ?_ | (refine Yq ?_ ?_ <;> intro hc <;> try first | contradiction | omega) | refine zH ?_ | refine zI ?_ | refine zJ ?_ | refine Yx ?_ | refine Yz ?_ | refine Yy ?_)
 refine wc_loopE (ι := Nat) (fun j => [(0, .str s), (3, .int .i64 (j : Int))]) (fun j h' => h' = h ∧ j ≤ s.length) (fun j => s.length - j) ?_ 0 ⟨rfl, Nat.zero_le _⟩ (Sc (Sc Sn))
 rintro j h' ⟨rfl, hj⟩
 by_cases hlt : j < s.length
 ·repeat' (first | refine Yu ?_ | refine Yp ?_ | refine za ?_ | (refine Yq ?_ ?_ <;> intro hc <;> try first | contradiction | omega) | refine zH ?_ | refine zI ?_ | refine zJ ?_ | refine Yx ?_ | refine Yz ?_ | refine Yy ?_)
  all_goals first
   | exact ⟨Or.inr rfl, _, rfl, k _⟩
   | exact ⟨j + 1, by simp; omega, (Sc (Sc Sn)), rfl, hlt⟩
 ·repeat' (first | refine Yu ?_ | refine Yp ?_ | refine za ?_ | (refine Yq ?_ ?_ <;> intro hc <;> try first | contradiction | omega) | refine zH ?_ | refine zI ?_ | refine zJ ?_ | refine Yx ?_ | refine Yz ?_ | refine Yy ?_)
  all_goals exact ⟨Or.inr rfl, _, rfl, k _⟩
theorem strs_arr {h1 : H} {id n : Nat} {cap : Option Nat} {l : List AV} (ss : List (List Nat)) (hl : l = ss.map AV.str) (hn : ss.length = n) (hp : 0 < n) (hlt : id < h1.n) (hb : h1.get id = some (.cells l)) : ∃ rows, Arr h1 (.sl id 0 n 1 cap) 1 rows id ∧ rows.length = n ∧ ∀ j, j < n → rows[j]? = some [.str (ss.getD j [])] := by
 subst hl hn
 have hfl : ∀ l : List (List Nat), l.map AV.str = (l.map fun s => [AV.str s]).flatten := fun l => by
  induction l with
  | nil => rfl
  | cons x l ih => simp only [List.map_cons, List.flatten_cons, List.cons_append, List.nil_append, ih]
 have A := Arr.mk' (h := h1) (id := id) (cap := cap) (esz := 1) (rows := ss.map fun s => [AV.str s]) (by simpa using hp) hlt hb (hfl ss) (fun row hr => by
  obtain ⟨s, _, rfl⟩ := List.mem_map.1 hr
  rfl)
 refine ⟨_, by simpa using A, by simp, fun j hj => ?_⟩
 simp [hj]
def kwL : List (List Nat) := [[99, 108, 97, 115, 115], [101, 120, 116, 101, 110, 100, 115], [118, 97, 114], [100, 101, 102], [115, 116, 97, 116, 105, 99], [105, 102], [101, 108, 115, 101], [119, 104, 105, 108, 101], [116, 114, 121], [99, 97, 116, 99, 104], [116, 104, 114, 111, 119], [114, 101, 116, 117, 114, 110], [110, 101, 119], [110, 117, 108, 108], [116, 104, 105, 115], [105, 110, 112, 117, 116], [105, 110, 116]]
def nmL : List (List Nat) := [[110, 111, 112], [99, 111, 110, 115, 116], [110, 117, 108, 108], [99, 111, 112, 121], [98, 105, 110], [105, 110, 112, 117, 116], [110, 101, 119], [108, 111, 97, 100], [115, 116, 111, 114, 101], [99, 97, 108, 108], [115, 116, 97, 116, 105, 99], [98, 114, 97, 110, 99, 104], [106, 117, 109, 112], [114, 101, 116, 117, 114, 110], [116, 104, 114, 111, 119], [99, 97, 116, 99, 104], [115, 104, 105, 102, 116]]
theorem Keyword_ev {s : List Nat} (hcx : Cx c h) (hn : h.n + 1 < 10000000) (k : ∀ b h', Grew h h' → h'.n ≤ h.n + 1 → K (.bool b) h') : Gv Tryz.prog X0 Mx c 268 [.str s] h K := by
 have hnt : (18 : Nat) ≤ 1000000 := by decide
 refine gv_fn x_Keyword (Mx_no rfl _ _ _) (by simp) hnt ?_
 unfold s_Keyword SR.o
 repeat' (first | refine Yu ?_ | refine Yp ?_ | refine z6 ?_ | refine z8 ?_ | refine za ?_ | refine zk ?_ | (refine Yq ?_ ?_ <;> intro hc <;> try first | contradiction | omega) | (refine wo_bsliceA rfl (by omega) fun h1 n1 b1 g1 => ?_) | refine Yx ?_ | refine Yz ?_ | refine Yy ?_)
 have hs1 : seen c.vis h.n = true := hcx.new (Nat.le_refl _) (by omega)
 obtain ⟨rows, A1, hr, hrow⟩ := strs_arr (cap := some 17) (n := 17) kwL rfl rfl (by omega) (by omega) b1
 refine wc_loopE (ι := Nat) (fun j => [(0, .str s), (3, .sl h.n 0 17 1 (some 17)), (4, .int .i64 (j : Int))]) (fun j h' => h' = h1 ∧ j ≤ 17) (fun j => 17 - j) ?_ 0 ⟨rfl, Nat.zero_le _⟩ (Sc (Sc (Sc Sn)))
 rintro j h' ⟨hh, hj⟩
 have hh2 := hh.symm
 subst hh2
 by_cases hlt : j < 17
 ·have hw := hrow j hlt
  repeat' (first | refine Yu ?_ | refine Yp ?_ | refine z6 ?_ | refine z8 ?_ | refine za ?_ | refine zk ?_ | (refine Yq ?_ ?_ <;> intro hc <;> try first | contradiction | omega) | refine Yx ?_ | refine Yz ?_ | refine Yy ?_)
  all_goals first
   | exact ⟨Or.inr rfl, _, rfl, k _ _ g1 (by omega)⟩
   | exact ⟨j + 1, by simp; omega, (Sc (Sc (Sc Sn))), rfl, hlt⟩
 ·repeat' (first | refine Yu ?_ | refine Yp ?_ | refine z6 ?_ | refine z8 ?_ | refine za ?_ | refine zk ?_ | (refine Yq ?_ ?_ <;> intro hc <;> try first | contradiction | omega) | refine Yx ?_ | refine Yz ?_ | refine Yy ?_)
  all_goals exact ⟨Or.inr rfl, _, rfl, k _ _ g1 (by omega)⟩
theorem Ident_ev {s : List Nat} (hcx : Cx c h) (hn : h.n + 1 < 10000000) (k : ∀ b h', Grew h h' → h'.n ≤ h.n + 1 → K (.bool b) h') : Gv Tryz.prog X0 Mx c 154 [.str s] h K := by
 have hnt : (32 : Nat) ≤ 1000000 := by decide
 refine gv_fn x_Ident (Mx_no rfl _ _ _) (by simp) hnt ?_
 unfold s_Ident SR.g SR.m SR.o
 by_cases hs : s = []
 ·subst hs
  repeat' (first | refine Yu ?_ | refine Yp ?_ | refine za ?_ | (refine Yq ?_ ?_ <;> intro hc <;> try first | contradiction | omega) | refine zH ?_ | refine zJ ?_ | refine Yx ?_ | refine Yz ?_ | refine Yy ?_)
  all_goals exact ⟨Or.inr rfl, _, rfl, k _ _ (Grew.refl _) (by omega)⟩
 have hp : 0 < s.length := List.length_pos_iff.2 hs
 repeat' (first | refine Yu ?_ | refine Yp ?_ | refine za ?_ | (refine Yq ?_ ?_ <;> intro hc <;> try first | contradiction | omega) | refine zH ?_ | refine zJ ?_ | (refine wo_call rfl rfl (letter_ev fun b => ?_); cases b) | (refine wo_call rfl rfl (Keyword_ev hcx (by omega) fun b h2 g2 n2 => ?_); cases b) | refine Yx ?_ | refine Yz ?_ | refine Yy ?_)
 all_goals try exact ⟨Or.inr rfl, _, rfl, k _ _ (Grew.refl _) (by omega)⟩
 all_goals try exact ⟨Or.inr rfl, _, rfl, k _ _ g2 (by omega)⟩
 all_goals refine wc_loopE (ι := Nat) (fun j => [(0, .str s), (3, .int .i64 (j : Int))]) (fun j h' => h' = h2 ∧ j ≤ s.length) (fun j => s.length - j) ?_ 0 ⟨rfl, Nat.zero_le _⟩ (Sc (Sc Sn))
 all_goals rintro j h' ⟨hh, hj⟩
 all_goals have hh2 := hh.symm
 all_goals subst hh2
 all_goals by_cases hlt : j < s.length
 all_goals repeat' (first | refine Yu ?_ | refine Yp ?_ | refine za ?_ | (refine Yq ?_ ?_ <;> intro hc <;> try first | contradiction | omega) | refine zH ?_ | refine zJ ?_ | (refine wo_call rfl rfl (part_ev fun b => ?_); cases b) | refine Yx ?_ | refine Yz ?_ | refine Yy ?_)
 all_goals first
  | exact ⟨Or.inr rfl, _, rfl, k _ _ g2 (by omega)⟩
  | exact ⟨j + 1, by simp; omega, (Sc (Sc Sn)), rfl, hlt⟩
def nameF (op : Int) : List Nat := if 0 ≤ op ∧ op < 17 then nmL.getD op.toNat [] else []
theorem Name12_ev {op : Int} (hcx : Cx c h) (hn : h.n + 1 < 10000000) (k : ∀ h', Grew h h' → h'.n ≤ h.n + 1 → K (.str (nameF op)) h') : Gv Tryz.prog X0 Mx c 157 [.int .i64 op] h K := by
 have hnt : (17 : Nat) ≤ 1000000 := by decide
 refine gv_fn x_Name12 (Mx_no rfl _ _ _) (by simp) hnt ?_
 unfold s_Name12 SR.g SR.o
 repeat' (first | refine Yu ?_ | refine Yp ?_ | refine z7 ?_ | refine z9 ?_ | refine zk ?_ | (refine Yq ?_ ?_ <;> intro hc <;> try first | contradiction | omega) | (refine wo_bsliceA rfl (by omega) fun h1 n1 b1 g1 => ?_) | refine Yx ?_ | refine Yy ?_)
 all_goals try exact ⟨Or.inr rfl, _, rfl, by have := k _ g1 (by omega); unfold nameF at this; rwa [if_neg (by omega)] at this⟩
 have hs1 : seen c.vis h.n = true := hcx.new (Nat.le_refl _) (by omega)
 obtain ⟨rows, A1, hr, hrow⟩ := strs_arr (cap := some 17) (n := 17) nmL rfl rfl (by omega) (by omega) b1
 have hw := hrow op.toNat (by omega)
 have hop : op = ((op.toNat : Nat) : Int) := by omega
 repeat' (first | refine Yu ?_ | refine Yp ?_ | refine z7 ?_ | refine z9 ?_ | refine zk ?_ | (refine Yq ?_ ?_ <;> intro hc <;> try first | contradiction | omega) | refine Yx ?_ | refine Yy ?_)
 exact ⟨Or.inr rfl, _, rfl, by have := k _ g1 (by omega); unfold nameF at this; rwa [if_pos (by omega)] at this⟩
def fmL : List (List Nat) := [[], [100, 110], [100], [100, 97], [100, 97, 111, 98], [100], [100, 99], [100, 97, 109], [97, 109, 98], [100, 97, 99, 109, 108], [100, 99, 109, 108], [97, 103], [103], [97], [97], [100, 99], [100, 97, 110]]
def formF (op : Int) : List Nat := fmL.getD op.toNat []
theorem Form_ev {op : Int} (h0 : 0 ≤ op) (h17 : op < 17) (hcx : Cx c h) (hn : h.n + 1 < 10000000) (k : ∀ h', Grew h h' → h'.n ≤ h.n + 1 → K (.str (formF op)) h') : Gv Tryz.prog X0 Mx c 376 [.int .i64 op] h K := by
 have hnt : (9 : Nat) ≤ 1000000 := by decide
 refine gv_fn x_Form (Mx_no rfl _ _ _) (by simp) hnt ?_
 unfold s_Form SR.o
 repeat' (first | refine Yu ?_ | refine Yp ?_ | refine z9 ?_ | refine zk ?_ | (refine wo_bsliceA rfl (by omega) fun h1 n1 b1 g1 => ?_) | refine Yx ?_ | refine Yy ?_)
 have hs1 : seen c.vis h.n = true := hcx.new (Nat.le_refl _) (by omega)
 obtain ⟨rows, A1, hr, hrow⟩ := strs_arr (cap := some 17) (n := 17) fmL rfl rfl (by omega) (by omega) b1
 have hw := hrow op.toNat (by omega)
 have hop : op = ((op.toNat : Nat) : Int) := by omega
 repeat' (first | refine Yu ?_ | refine Yp ?_ | refine z9 ?_ | refine zk ?_ | refine Yx ?_ | refine Yy ?_)
 exact ⟨Or.inr rfl, _, rfl, k _ g1 (by omega)⟩
def hasP (f : Nat) (b : Nat) : Bool := decide (b = f) || (decide (f = 110) && decide (b = 111))
def hasF (op : Int) (f : Nat) : Bool := decide (0 ≤ op ∧ op < 17) && (formF op).any (hasP f)
theorem nameF_out {op : Int} (h : ¬ (0 ≤ op ∧ op < 17)) : nameF op = [] := by unfold nameF; rw [if_neg h]
theorem nameF_in {op : Int} (h : 0 ≤ op ∧ op < 17) : nameF op ≠ [] := by
 unfold nameF
 rw [if_pos h]
 have e : ∀ n, n < 17 → nmL.getD n [] ≠ [] := by decide
 exact e _ (by omega)
theorem formF_len {op : Int} (h : op < 17) : (formF op).length ≤ 10 := by
 have e : ∀ n, n < 17 → (fmL.getD n []).length ≤ 10 := by decide
 exact e op.toNat (by omega)
theorem any_drop {p : Nat → Bool} {s : List Nat} {j : Nat} (hj : j < s.length) : (s.drop j).any p = (p (s.getD j 0) || (s.drop (j + 1)).any p) := by
 rw [List.drop_eq_getElem_cons hj, List.any_cons]
 simp [hj]
theorem Has_ev {op : Int} {f : Nat} (hcx : Cx c h) (hn : h.n + 2 < 10000000) (k : ∀ h', Grew h h' → h'.n ≤ h.n + 2 → K (.bool (hasF op f)) h') : Gv Tryz.prog X0 Mx c 270 [.int .i64 op, .int .u8 (f : Int)] h K := by
 have hnt : (33 : Nat) ≤ 1000000 := by decide
 refine gv_fn x_Has (Mx_no rfl _ _ _) (by simp) hnt ?_
 unfold s_Has SR.g SR.m SR.o
 by_cases hin : 0 ≤ op ∧ op < 17
 case neg =>
  have e := nameF_out hin
  repeat' (first | refine Yu ?_ | refine Yp ?_ | refine za ?_ | (refine Yq ?_ ?_ <;> intro hc <;> try first | contradiction | omega) | refine zH ?_ | refine zJ ?_ | (refine wo_call rfl rfl (Name12_ev hcx (by omega) fun h2 g2 n2 => ?_)) | refine Yx ?_ | refine Yz ?_ | refine Yy ?_)
  all_goals first
   | exact absurd e hc
   | exact ⟨Or.inr rfl, _, rfl, by have := k _ g2 (by omega); unfold hasF at this; rwa [decide_eq_false hin] at this⟩
 have e := nameF_in hin
 obtain ⟨hi0, hi17⟩ := hin
 repeat' (first | refine Yu ?_ | refine Yp ?_ | refine za ?_ | (refine Yq ?_ ?_ <;> intro hc <;> try first | contradiction | omega) | refine zH ?_ | refine zJ ?_ | (refine wo_call rfl rfl (Name12_ev hcx (by omega) fun h2 g2 n2 => ?_)) | (refine wo_call rfl rfl (Form_ev (by omega) (by omega) (hcx.mono g2.le) (by omega) fun h3 g3 n3 => ?_)) | refine Yx ?_ | refine Yz ?_ | refine Yy ?_)
 have g23 := g2.trans g3
 have e1 : hasF op f = (formF op).any (hasP f) := by unfold hasF; rw [decide_eq_true ⟨hi0, hi17⟩]; rfl
 rw [e1] at k
 have hsl : (formF op).length ≤ 10 := formF_len hi17
 generalize formF op = s at k hsl
 refine wc_loopE (ι := Nat) (fun j => [(1, .int .u8 (f : Int)), (5, .str s), (6, .int .i64 (j : Int))]) (fun j h' => h' = h3 ∧ j ≤ s.length ∧ s.any (hasP f) = (s.drop j).any (hasP f)) (fun j => s.length - j) ?_ 0 ⟨rfl, Nat.zero_le _, rfl⟩ (Sc (Sc (Sc Sn)))
 rintro j h' ⟨hh, hj, hd⟩
 have hh2 := hh.symm
 subst hh2
 by_cases hlt : j < s.length
 ·rw [any_drop hlt] at hd
  generalize hz : s.getD j 0 = z at hd
  repeat' (first | refine Yu ?_ | refine Yp ?_ | refine za ?_ | (refine Yq ?_ ?_ <;> intro hc <;> try first | contradiction | omega) | refine zH ?_ | refine zJ ?_ | refine Yx ?_ | refine Yz ?_ | refine Yy ?_)
  all_goals rw [hz] at *
  all_goals first
   | exact ⟨Or.inr rfl, _, rfl, by have q := k _ g23 (by omega); rwa [show s.any (hasP f) = true by rw [hd]; simp [hasP]; omega] at q⟩
   | exact ⟨j + 1, by simp; omega, (Sc (Sc (Sc Sn))), rfl, hlt, by rw [hd, show hasP f z = false by simp [hasP]; omega]; rfl⟩
 ·rw [List.drop_eq_nil_of_le (by omega)] at hd
  repeat' (first | refine Yu ?_ | refine Yp ?_ | refine za ?_ | (refine Yq ?_ ?_ <;> intro hc <;> try first | contradiction | omega) | refine zH ?_ | refine zJ ?_ | refine Yx ?_ | refine Yz ?_ | refine Yy ?_)
  all_goals exact ⟨Or.inr rfl, _, rfl, by have q := k _ g23 (by omega); rwa [hd] at q⟩
def dS (k : Nat) : Dt → List Nat
 | .row l => match l[k]? with
  | some (.str s) => s
  | _ => []
 | _ => []
def dI (k : Nat) : Dt → Int
 | .row l => match l[k]? with
  | some (.int n) => n
  | _ => 0
 | _ => 0
def dB (k : Nat) : Dt → Bool
 | .row l => match l[k]? with
  | some (.bool b) => b
  | _ => false
 | _ => false
def dL (k : Nat) : Dt → List Dt
 | .row l => match l[k]? with
  | some (.arr l) => l
  | _ => []
 | _ => []
def dR (k : Nat) : Dt → Dt
 | .row l => l.getD k (.int 0)
 | _ => .int 0
abbrev el (l : List Dt) (j : Nat) : Dt := l.getD j (.int 0)
def sOf : Dt → List Nat
 | .str s => s
 | _ => []
def iOf : Dt → Int
 | .int n => n
 | _ => 0
theorem at_Field {h : H} {l : List Dt} {v : AV} (C : Sl 70 true h ShField l v) : ∃ id rows, Arr h v 2 rows id ∧ rows.length = l.length ∧ (0 < l.length → id < h.n) ∧ ∀ j, j < l.length → rows[j]? = some [.str (dS 0 (el l j)), .str (dS 1 (el l j))] ∧ ones [.str (dS 0 (el l j)), .str (dS 1 (el l j))] = true := by
 obtain ⟨id, rows, o1, A, e1, p⟩ := C.out
 refine ⟨id, rows, A, by omega, fun hp => ?_, fun j hj => ?_⟩
 ·rcases A.at_ with ⟨q, _⟩ | ⟨_, _, q, _⟩
  ·rw [q] at e1; simp at e1; omega
  ·exact q
 ·have g : rows[j]? = some (rows[j]'(by omega)) := List.getElem?_eq_getElem (by omega)
  have m : l[j]? = some (el l j) := by simp [el, hj]
  have t := p j _ _ m g
  have o := t.ones
  generalize rows[j]'(by omega) = w at g t o
  generalize hE : el l j = x at t
  obtain ⟨a3, a5, hd, hw⟩ := rpd_Field t
  subst hd hw
  exact ⟨g, o⟩
theorem at_Sig {h : H} {l : List Dt} {v : AV} (C : Sl 70 true h ShSig l v) : ∃ id rows, Arr h v 4 rows id ∧ rows.length = l.length ∧ (0 < l.length → id < h.n) ∧ ∀ j, j < l.length → ∃ v2, rows[j]? = some [.str (dS 0 (el l j)), .bool (dB 1 (el l j)), v2, .str (dS 3 (el l j))] ∧ Sl 70 true h .str (dL 2 (el l j)) v2 ∧ ones [.str (dS 0 (el l j)), .bool (dB 1 (el l j)), v2, .str (dS 3 (el l j))] = true := by
 obtain ⟨id, rows, o1, A, e1, p⟩ := C.out
 refine ⟨id, rows, A, by omega, fun hp => ?_, fun j hj => ?_⟩
 ·rcases A.at_ with ⟨q, _⟩ | ⟨_, _, q, _⟩
  ·rw [q] at e1; simp at e1; omega
  ·exact q
 ·have g : rows[j]? = some (rows[j]'(by omega)) := List.getElem?_eq_getElem (by omega)
  have m : l[j]? = some (el l j) := by simp [el, hj]
  have t := p j _ _ m g
  have o := t.ones
  generalize rows[j]'(by omega) = w at g t o
  generalize hE : el l j = x at t
  obtain ⟨a3, a5, a7, av7, a9, hd, hw, al7, as7⟩ := rpd_Sig t
  subst hd hw
  exact ⟨_, g, as7, o⟩
theorem at_Class {h : H} {l : List Dt} {v : AV} (C : Sl 70 true h ShClass l v) : ∃ id rows, Arr h v 4 rows id ∧ rows.length = l.length ∧ (0 < l.length → id < h.n) ∧ ∀ j, j < l.length → ∃ v2 v3, rows[j]? = some [.str (dS 0 (el l j)), .str (dS 1 (el l j)), v2, v3] ∧ Sl 70 true h ShField (dL 2 (el l j)) v2 ∧ Sl 70 true h ShSig (dL 3 (el l j)) v3 ∧ ones [.str (dS 0 (el l j)), .str (dS 1 (el l j)), v2, v3] = true := by
 obtain ⟨id, rows, o1, A, e1, p⟩ := C.out
 refine ⟨id, rows, A, by omega, fun hp => ?_, fun j hj => ?_⟩
 ·rcases A.at_ with ⟨q, _⟩ | ⟨_, _, q, _⟩
  ·rw [q] at e1; simp at e1; omega
  ·exact q
 ·have g : rows[j]? = some (rows[j]'(by omega)) := List.getElem?_eq_getElem (by omega)
  have m : l[j]? = some (el l j) := by simp [el, hj]
  have t := p j _ _ m g
  have o := t.ones
  generalize rows[j]'(by omega) = w at g t o
  generalize hE : el l j = x at t
  obtain ⟨a3, a5, a7, av7, a9, av9, hd, hw, al7, as7, al9, as9⟩ := rpd_Class t
  subst hd hw
  exact ⟨_, _, g, as7, as9, o⟩
theorem at_Instr {h : H} {l : List Dt} {v : AV} (C : Sl 70 true h ShInstr l v) : ∃ id rows, Arr h v 10 rows id ∧ rows.length = l.length ∧ (0 < l.length → id < h.n) ∧ ∀ j, j < l.length → ∃ v7, rows[j]? = some [.int .i64 (dI 0 (el l j)), .int .i64 (dI 1 (el l j)), .int .i64 (dI 2 (el l j)), .int .i64 (dI 3 (el l j)), .int .i64 (dI 4 (el l j)), .str (dS 5 (el l j)), .str (dS 6 (el l j)), v7, .int .i64 (dI 8 (el l j)), .int .i64 (dI 9 (el l j))] ∧ Sl 70 true h (.int .i64) (dL 7 (el l j)) v7 ∧ ones [.int .i64 (dI 0 (el l j)), .int .i64 (dI 1 (el l j)), .int .i64 (dI 2 (el l j)), .int .i64 (dI 3 (el l j)), .int .i64 (dI 4 (el l j)), .str (dS 5 (el l j)), .str (dS 6 (el l j)), v7, .int .i64 (dI 8 (el l j)), .int .i64 (dI 9 (el l j))] = true := by
 obtain ⟨id, rows, o1, A, e1, p⟩ := C.out
 refine ⟨id, rows, A, by omega, fun hp => ?_, fun j hj => ?_⟩
 ·rcases A.at_ with ⟨q, _⟩ | ⟨_, _, q, _⟩
  ·rw [q] at e1; simp at e1; omega
  ·exact q
 ·have g : rows[j]? = some (rows[j]'(by omega)) := List.getElem?_eq_getElem (by omega)
  have m : l[j]? = some (el l j) := by simp [el, hj]
  have t := p j _ _ m g
  have o := t.ones
  generalize rows[j]'(by omega) = w at g t o
  generalize hE : el l j = x at t
  obtain ⟨a3, a5, a7, a9, a11, a13, a15, a17, av17, a19, a21, hd, hw, al17, as17⟩ := rpd_Instr t
  subst hd hw
  exact ⟨_, g, as17, o⟩
theorem at_Func {h : H} {l : List Dt} {v : AV} (C : Sl 70 true h ShFunc l v) : ∃ id rows, Arr h v 7 rows id ∧ rows.length = l.length ∧ (0 < l.length → id < h.n) ∧ ∀ j, j < l.length → ∃ v4 v6, rows[j]? = some [.str (dS 0 (el l j)), .str (dS 1 (el l j)), .bool (dB 2 (el l j)), .int .i64 (dI 3 (el l j)), v4, .str (dS 5 (el l j)), v6] ∧ Sl 70 true h ShField (dL 4 (el l j)) v4 ∧ Sl 70 true h ShInstr (dL 6 (el l j)) v6 ∧ ones [.str (dS 0 (el l j)), .str (dS 1 (el l j)), .bool (dB 2 (el l j)), .int .i64 (dI 3 (el l j)), v4, .str (dS 5 (el l j)), v6] = true := by
 obtain ⟨id, rows, o1, A, e1, p⟩ := C.out
 refine ⟨id, rows, A, by omega, fun hp => ?_, fun j hj => ?_⟩
 ·rcases A.at_ with ⟨q, _⟩ | ⟨_, _, q, _⟩
  ·rw [q] at e1; simp at e1; omega
  ·exact q
 ·have g : rows[j]? = some (rows[j]'(by omega)) := List.getElem?_eq_getElem (by omega)
  have m : l[j]? = some (el l j) := by simp [el, hj]
  have t := p j _ _ m g
  have o := t.ones
  generalize rows[j]'(by omega) = w at g t o
  generalize hE : el l j = x at t
  obtain ⟨a3, a5, a7, a9, a11, av11, a13, a15, av15, hd, hw, al11, as11, al15, as15⟩ := rpd_Func t
  subst hd hw
  exact ⟨_, _, g, as11, as15, o⟩
theorem at_str {h : H} {l : List Dt} {v : AV} (C : Sl 70 true h .str l v) : ∃ id rows, Arr h v 1 rows id ∧ rows.length = l.length ∧ (0 < l.length → id < h.n) ∧ ∀ j, j < l.length → rows[j]? = some [.str (sOf (el l j))] := by
 obtain ⟨id, rows, o1, A, e1, p⟩ := C.out
 refine ⟨id, rows, A, by omega, fun hp => ?_, fun j hj => ?_⟩
 ·rcases A.at_ with ⟨q, _⟩ | ⟨_, _, q, _⟩
  ·rw [q] at e1; simp at e1; omega
  ·exact q
 ·have g : rows[j]? = some (rows[j]'(by omega)) := List.getElem?_eq_getElem (by omega)
  have m : l[j]? = some (el l j) := by simp [el, hj]
  have t := p j _ _ m g
  generalize rows[j]'(by omega) = w at g t
  generalize hE : el l j = x at t
  obtain ⟨a, hd, hw⟩ := rp_str t
  subst hd hw
  exact g
theorem at_int {h : H} {l : List Dt} {v : AV} (C : Sl 70 true h (.int .i64) l v) : ∃ id rows, Arr h v 1 rows id ∧ rows.length = l.length ∧ (0 < l.length → id < h.n) ∧ ∀ j, j < l.length → rows[j]? = some [.int .i64 (iOf (el l j))] := by
 obtain ⟨id, rows, o1, A, e1, p⟩ := C.out
 refine ⟨id, rows, A, by omega, fun hp => ?_, fun j hj => ?_⟩
 ·rcases A.at_ with ⟨q, _⟩ | ⟨_, _, q, _⟩
  ·rw [q] at e1; simp at e1; omega
  ·exact q
 ·have g : rows[j]? = some (rows[j]'(by omega)) := List.getElem?_eq_getElem (by omega)
  have m : l[j]? = some (el l j) := by simp [el, hj]
  have t := p j _ _ m g
  generalize rows[j]'(by omega) = w at g t
  generalize hE : el l j = x at t
  obtain ⟨a, hd, hw⟩ := rp_int t
  subst hd hw
  exact g
structure SLo (n0 : Nat) (h : H) (v : AV) (l : List (List Nat)) (id : Nat) : Prop where
 arr : Arr h v 1 (l.map fun s => [.str s]) id
 nil : l = [] → v = .nils
 own : l ≠ [] → n0 ≤ id ∧ id < h.n
theorem SLo.empty (n0 : Nat) (h : H) : SLo n0 h .nils [] 0 := ⟨⟨Or.inl ⟨rfl, Or.inl rfl⟩⟩, fun _ => rfl, fun q => absurd rfl q⟩
theorem SLo.grew {n0 : Nat} {h h' : H} {v : AV} {l : List (List Nat)} {id : Nat} (a : SLo n0 h v l id) (g : Grew h h') : SLo n0 h' v l id :=
 ⟨a.arr.grew g, a.nil, fun q => ⟨(a.own q).1, Nat.lt_of_lt_of_le (a.own q).2 g.le⟩⟩
theorem SLo.rows {n0 : Nat} {h : H} {v : AV} {l : List (List Nat)} {id : Nat} (a : SLo n0 h v l id) : ∃ rows, Arr h v 1 rows id ∧ rows.length = l.length ∧ ∀ j, j < l.length → rows[j]? = some [.str (l.getD j [])] :=
 ⟨_, a.arr, by simp, fun j hj => by simp [hj]⟩
theorem wo_addS {P : Program} {X : Exts} {M : Mf} {env : Env'} {s x : XV} {sv : AV} {l : List (List Nat)} {id n0 xid : Nat} {w : List Nat} {cap : Option Nat} (hs0 : evE env s = some sv) (hx : evE env x = some (.sl xid 0 1 1 cap)) (a : SLo n0 h sv l id) (hX : h.get xid = some (.cells [.str w])) (hxl : xid < h.n) (hcx : Cx c h) (hsee : ∀ i, n0 ≤ i → i < 10000000 → seen c.vis i = true) (hxn : n0 ≤ xid) (hn : h.n < 10000000) (hfl : c.floor ≤ n0) (hl : l.length ≤ 999999)
  (hk : ∀ h' sv', SLo n0 h' sv' (l ++ [w]) h.n → h'.n = h.n + 1 → (∀ j, j < n0 → h'.get j = h.get j) → K sv' h') : WO P X M c (.append 1 s x) env h K := by
 have A1 : Arr h (.sl xid 0 1 1 cap) 1 [[.str w]] xid := Arr.mk' (rows := [[.str w]]) (by simp) hxl hX rfl (fun row hr => by simp at hr; subst hr; rfl)
 have hne : ∀ l : List (List Nat), (l.map fun s => ([.str s] : List AV)) ≠ [] → l ≠ [] := fun l q e => q (by rw [e]; rfl)
 refine wo_appArr hs0 hx a.arr ?_ A1 (by simp) (hsee xid hxn (by omega)) rfl (fun q => ?_) (by simp; omega) hn fun h' sv' A' e' g' => hk h' sv' ⟨by simpa using A', fun q => absurd q (by simp), fun _ => ?_⟩ e' fun j hj => g' j ?_ fun q e => ?_
 ·by_cases q : l = []
  ·exact Or.inr (a.nil q)
  ·exact Or.inl (by simpa using q)
 ·have := a.own (hne l q)
  exact ⟨hsee id this.1 (by omega), by omega⟩
 ·have := A'
  constructor
  ·by_cases q : l = []
   ·omega
   ·have := a.own q; omega
  ·omega
 ·omega
 ·have := a.own (hne l q); omega
end Go.Proofs.YtmdceifbbmnfgaaGreatDoor.Ev
