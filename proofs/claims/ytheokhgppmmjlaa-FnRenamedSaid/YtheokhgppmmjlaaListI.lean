/- Contracts of the program's small functions on lists of numbers. Lists are short. -/
import Derived.Test.YtheokhgppmmjlaaListS
set_option linter.unusedSimpArgs false
set_option linter.unusedVariables false
namespace Go.Proofs.Ytheokhgppmmjlaa
open Go Go.RowKit Go.Proofs
set_option maxHeartbeats 400000
def indexN (zs : List Int) (n : Int) : Int := if n ∈ zs then (zs.idxOf n : Nat) else -1
theorem indexN_neg (zs : List Int) (n : Int) : decide (indexN zs n ≥ 0) = decide (n ∈ zs) := by
  unfold indexN
  by_cases h : n ∈ zs <;> simp [h]
end Go.Proofs.Ytheokhgppmmjlaa
