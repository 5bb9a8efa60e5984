/- Contracts of the program's actions of the machine on one half of the tape. The place and the symbol are the machine's.
Contracts of the program's actions of the machine on one half of the tape, continued. The place and the symbol are the machine's.
Contract of the program's numbers of places, of the machine on one half of the tape. Fewer than 100000 places have a number. -/
import Derived.Test.YtkbpchdncljlbaaDoorR26
import Derived.Test.YtkbpchdncljlbaaDoorR10
import Derived.Test.YtkbpchdncljlbaaDoorR08
import Derived.StillTailTactics
import Derived.Deep.RegionLaw
import Derived.Deep.AppendLies
import Derived.Maps.AppendAt
section
set_option linter.unusedSimpArgs false
set_option linter.unusedVariables false
namespace Go.Proofs.YtkbpchdncljlbaaDoor
open Go Go.RowKit Go.Proofs
set_option maxHeartbeats 400000
end Go.Proofs.YtkbpchdncljlbaaDoor
end
section
set_option linter.unusedSimpArgs false
set_option linter.unusedVariables false
namespace Go.Proofs.YtkbpchdncljlbaaDoor
open Go Go.RowKit Go.Proofs
set_option maxHeartbeats 4000000
structure FoldArgs (m : MachD) (p : FP) (v : Int) : Prop where
  ok : machOk m = true
  p : POk m.st p
  v0 : 0 ≤ v
  v1 : v ≤ m.sy
end Go.Proofs.YtkbpchdncljlbaaDoor
end
section
namespace Go.Proofs.YtkbpchdncljlbaaDoor
open Go Go.RowKit Go.Proofs Go.Maps
set_option maxHeartbeats 400000
theorem laidOutF : laidOutB Tryd.prog = true := by kernel_rfl
def small (z : Int) : Prop := -1000000 ≤ z ∧ z ≤ 1000000
theorem small_wf {z : Int} (h : small z) : (Lit.int .i64 z).wf = true := by
  obtain ⟨_, _⟩ := h
  simp [Lit.wf, IntKind.min, IntKind.max, IntKind.signed, IntKind.bits]
  omega
def fvs (ps : List FP) : List Value := ps.flatMap fun p => [.int .i64 p.k, .int .i64 p.q, .int .i64 p.h]
theorem fvs_snoc (ps : List FP) (x : FP) : fvs (ps ++ [x]) = fvs ps ++ [.int .i64 x.k, .int .i64 x.q, .int .i64 x.h] := by simp [fvs]
theorem fvs_length (ps : List FP) : (fvs ps).length = ps.length * 3 := by
  induction ps with
  | nil => rfl
  | cons a l ih => simp [fvs] at ih ⊢; omega
end Go.Proofs.YtkbpchdncljlbaaDoor
end
