/- The law returns true for every input, and writes nothing old. -/
import Derived.Test.YtlocnfaeiacphaaGreatDoorCpRb
import Derived.Test.YtlocnfaeiacphaaGreatDoorCpLw
set_option linter.unusedVariables false
set_option linter.unusedSimpArgs false
namespace Go.Proofs.YtlocnfaeiacphaaGreatDoor.Ev
open Go Go.RowKit
theorem seen_top {id : Nat} (h : id < big) : seen (top 7).vis id = true := seen_here (Nat.zero_le _) h
theorem law_runs : LawRuns := fun h nsv esv obv endv ns es os mn hcx hn a1 a2 a3 hov o1 o2 o3 =>
  law_ev hcx a1 a2 a3 (by omega) (by omega) (by omega) (seen_top (by unfold big; omega)) (seen_top (by unfold big; omega)) (seen_top (by unfold big; omega)) hov o1 o2 o3 (by omega)
theorem law_any {w : World} {v1 v2 v3 : Value} {ns : List Nd} {es : List Ed} {os : List Ob} {mn en : Int} (s1 : SlIn w v1 3 (ns.map Nd.row)) (s2 : SlIn w v2 4 (es.map Ed.row)) (s3 : SlIn w v3 5 (os.map Ob.row)) (hov : ∀ o ∈ os, one o.v = true) :
    Calls Tryz.prog 3 #[.agg #[v1, v2, .int .i64 mn], .agg #[.int .i64 en, v3]] w fun e w' => e = .returned (.bool true) ∧ Below w.heap.size w w' := law_of law_runs s1 s2 s3 hov
end Go.Proofs.YtlocnfaeiacphaaGreatDoor.Ev
