/- The contract of the laws' r8Long. -/
import Derived.Test.YtpdnmhhieokogaaLeaf
namespace Go.Proofs.Ytpdnmhhieokogaa
open Go Go.RowKit Go.Proofs
set_option maxHeartbeats 400000
theorem r8Longs_c (w : World) (A B : Option Addr) (n c k d : Nat) :
    Calls Try.prog 4 #[.slice A n c, .slice B k d] w fun e w' => e = .returned (.bool (decide (1048576 < n) || decide (1048576 < k))) ∧ w = w' := by
  by_cases h1 : 1048576 < n
  · have e1 : decide ((n : Int) > 1048576) = true := by simp; omega
    have HH := Lib.hid h1
    clear h1
    go_enter Try.func4, Try.ntmps4
    go_wp2
    go_ret
    exact ⟨by simp [HH.out], rfl⟩
  · have e1 : decide ((n : Int) > 1048576) = false := by simp; omega
    have HH := Lib.hid h1
    clear h1
    by_cases h2 : 1048576 < k
    · have e2 : decide ((k : Int) > 1048576) = true := by simp; omega
      have HK := Lib.hid h2
      clear h2
      go_enter Try.func4, Try.ntmps4
      go_wp2
      go_ret
      exact ⟨by simp [HH.out, HK.out], rfl⟩
    · have e2 : decide ((k : Int) > 1048576) = false := by simp; omega
      have HK := Lib.hid h2
      clear h2
      go_enter Try.func4, Try.ntmps4
      go_wp2
      go_ret
      exact ⟨by simp [HH.out, HK.out], rfl⟩
end Go.Proofs.Ytpdnmhhieokogaa
