/- Contract of the program's machine on one half of the tape. The machine is valid and has fewer than 6 symbols.
Contract of the reference's building of the machine on one half of the tape. The machine is valid and has fewer than 6 symbols.
Contracts of both machines on one half of the tape: the program's and the reference's. The machine is valid. -/
import Derived.Test.YtkbpchdncljlbaaDoorR28
import Derived.Deep.RegionLaw
import Derived.Deep.AppendLies
import Derived.Test.YtkbpchdncljlbaaDoorR26
section
set_option linter.unusedSimpArgs false
set_option linter.unusedVariables false
namespace Go.Proofs.YtkbpchdncljlbaaDoor
open Go Go.RowKit Go.Proofs Go.Maps
set_option maxHeartbeats 400000
def fp0 : FP := ⟨0, 0, 0⟩
def foldB (m : MachD) : Option (List FP × List RuleD) := bld (actF m) fp0 (m.sy + 1).toNat
theorem fvs_get (ps : List FP) (i : Nat) {p : FP} (h : ps[i]? = some p) : (fvs ps)[i * 3]? = some (.int .i64 p.k) ∧ (fvs ps)[i * 3 + 1]? = some (.int .i64 p.q) ∧ (fvs ps)[i * 3 + 2]? = some (.int .i64 p.h) := by
  induction ps generalizing i with
  | nil => simp at h
  | cons r ps ih =>
    cases i with
    | zero => simp at h; subst h; simp [fvs]
    | succ i =>
      have := ih i (by simpa using h)
      have e : (i + 1) * 3 = i * 3 + 3 := by omega
      have e1 : (i + 1) * 3 + 1 = (i * 3 + 1) + 3 := by omega
      have e2 : (i + 1) * 3 + 2 = (i * 3 + 2) + 3 := by omega
      simp only [fvs, List.flatMap_cons] at this ⊢
      rw [e1, e2, e]
      simpa using this
end Go.Proofs.YtkbpchdncljlbaaDoor
end
section
set_option linter.unusedSimpArgs false
set_option linter.unusedVariables false
namespace Go.Proofs.YtkbpchdncljlbaaDoor
open Go Go.RowKit Go.Proofs
set_option maxHeartbeats 400000
end Go.Proofs.YtkbpchdncljlbaaDoor
end
section
set_option linter.unusedSimpArgs false
set_option linter.unusedVariables false
namespace Go.Proofs.YtkbpchdncljlbaaDoor
open Go Go.RowKit Go.Proofs
set_option maxHeartbeats 400000
def foldOf (m : MachD) : Option (List FP × List RuleD) := if m.sy = 6 then none else foldB m
end Go.Proofs.YtkbpchdncljlbaaDoor
end
