/- Contracts of the reference's small functions on lists of numbers and on configurations. Lists are short.
Contracts of the program's small functions on lists of numbers. Lists are short. -/
import Derived.Test.YtkbpchdncljlbaaU07
import Derived.Maps.AppendAt
section
namespace Go.Proofs.Ytkbpchdncljlbaa
open Go Go.RowKit Go.Proofs
set_option maxHeartbeats 400000
theorem rev_snoc (zs : List Int) (k : Nat) (h : k < zs.length) : (zs.drop k).reverse = (zs.drop (k + 1)).reverse ++ [zs[k]] := by
  rw [List.drop_eq_getElem_cons h, List.reverse_cons]
end Go.Proofs.Ytkbpchdncljlbaa
end
section
set_option linter.unusedSimpArgs false
set_option linter.unusedVariables false
namespace Go.Proofs.Ytkbpchdncljlbaa
open Go Go.RowKit Go.Proofs
set_option maxHeartbeats 400000
def indexN (zs : List Int) (n : Int) : Int := if n ∈ zs then (zs.idxOf n : Nat) else -1
theorem indexN_neg (zs : List Int) (n : Int) : decide (indexN zs n ≥ 0) = decide (n ∈ zs) := by
  unfold indexN
  by_cases h : n ∈ zs <;> simp [h]
end Go.Proofs.Ytkbpchdncljlbaa
end
