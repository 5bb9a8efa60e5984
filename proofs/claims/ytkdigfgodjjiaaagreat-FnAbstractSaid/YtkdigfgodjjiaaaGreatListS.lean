/- Contracts of the reference's small functions on lists of numbers and on configurations. Lists are short. -/
import Derived.Test.YtkdigfgodjjiaaaGreatTrim
import Derived.Test.YtkdigfgodjjiaaaGreatConf
import Derived.Maps.AppendAt
namespace Go.Proofs.YtkdigfgodjjiaaaGreat
open Go Go.RowKit Go.Proofs
set_option maxHeartbeats 400000
theorem rev_snoc (zs : List Int) (k : Nat) (h : k < zs.length) : (zs.drop k).reverse = (zs.drop (k + 1)).reverse ++ [zs[k]] := by
  rw [List.drop_eq_getElem_cons h, List.reverse_cons]
end Go.Proofs.YtkdigfgodjjiaaaGreat
