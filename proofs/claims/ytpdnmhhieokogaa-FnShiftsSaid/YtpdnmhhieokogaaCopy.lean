/- Contracts of the laws' sizes and copies of lists of numbers. Lists are short. -/
import Derived.Test.YtpdnmhhieokogaaLaws
import Derived.Test.YtpdnmhhieokogaaHalt
namespace Go.Proofs.Ytpdnmhhieokogaa
open Go Go.RowKit Go.Proofs
set_option maxHeartbeats 400000
/-- What is left of a size. -/
def szF (left : Int) (n : Nat) : Int := if left < n then -1 else left - n
theorem szF_no {left : Int} {n : Nat} (h : left < n) : szF left n = -1 := if_pos h
theorem szF_yes {left : Int} {n : Nat} (h : ¬ left < n) : szF left n = left - n := if_neg h
theorem filled1_step {zs : List Int} {k : Nat} {xs : List Value} (h : xs.take k = ivs (zs.take k)) (hk : k < zs.length) (hx : xs.length = zs.length) : (xs.set k (.int .i64 zs[k])).take (k + 1) = ivs (zs.take (k + 1)) := by
  rw [take_set_snoc xs k _ (by omega), h, List.take_succ_eq_append_getElem hk, ivs_append]
  rfl
theorem filled1_end {zs : List Int} {k : Nat} {xs : List Value} (h : xs.take k = ivs (zs.take k)) (hk : zs.length ≤ k) (hx : xs.length = zs.length) : xs = ivs zs := by
  rwa [List.take_of_length_le (by omega), List.take_of_length_le hk] at h
def Filled1 (zs : List Int) (k : Nat) (xs : List Value) : Prop := xs.take k = ivs (zs.take k)
end Go.Proofs.Ytpdnmhhieokogaa
