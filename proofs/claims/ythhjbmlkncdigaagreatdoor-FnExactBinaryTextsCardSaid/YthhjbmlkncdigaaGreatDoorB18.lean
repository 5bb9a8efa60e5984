/- Plain words: the text of a machine, and that its parts are found again. No program stands here.
Contract of the text of a rule. The rule is one of a valid machine; the library's table is as its text lays it.
Contract: the rule of a text. The text is that of a rule of a valid machine; the library's table is as its text lays it. -/
import Derived.Lib.ItoaNum
import Derived.Lib.ItoaMem
import Derived.Lib.ItoaLen
import Derived.Lib.Join
import Derived.Test.YthhjbmlkncdigaaGreatDoorB03
import Derived.Lib.Split
import Derived.Lib.SplitLaws
import Derived.Lib.CountLaws
import Derived.Lib.CutLaws
import Derived.Lib.IndexAny
import Derived.Lib.ParseIntBTie
import Derived.Lib.AtoiTie
import Derived.Lib.AtoiAllCases
import Derived.Test.YthhjbmlkncdigaaGreatDoorB04
import Derived.Test.YthhjbmlkncdigaaGreatDoorB15
section
set_option linter.unusedSimpArgs false
set_option linter.unusedVariables false
namespace Go.Proofs.YthhjbmlkncdigaaGreatDoor
open Go Go.RowKit Go.Proofs
abbrev bsS (l : List UInt8) : ByteArray := ⟨l.toArray⟩
/-! Numbers. -/
theorem digits_len (u : Nat) (h : u ≤ 1000000) : (Lib.decDigits u).length ≤ 18 := by
  rw [Lib.decDigits_length]
  by_cases h0 : Lib.nDigits u ≤ 18
  · exact h0
  · exfalso
    have key : ∀ k u : Nat, u < 10 ^ (k + 1) → Lib.nDigits u ≤ k + 1 := by
      intro k
      induction k with
      | zero => intro u hu; rw [Lib.nDigits_small (by simpa using hu)]; exact Nat.le_refl _
      | succ k ih =>
        intro u hu
        by_cases hs : u < 10
        · rw [Lib.nDigits_small hs]; omega
        · rw [Lib.nDigits_big hs]
          have := ih (u / 10) (by rw [Nat.pow_succ] at hu; omega)
          omega
    have := key 17 u (by omega)
    omega
/-! The text of a machine. -/
end Go.Proofs.YthhjbmlkncdigaaGreatDoor
end
section
set_option linter.unusedSimpArgs false
set_option linter.unusedVariables false
namespace Go.Proofs.YthhjbmlkncdigaaGreatDoor
open Go Go.RowKit Go.Proofs
set_option maxHeartbeats 400000
theorem bs_app (a b : List UInt8) : bsS a ++ bsS b = bsS (a ++ b) := by
  apply ByteArray.ext
  simp [bsS]
theorem itoaS_size {n : Int} (h0 : 0 ≤ n) (h1 : n ≤ 1000000) : (itoaS n).size ≤ 18 := by
  have e : (itoaS n).size = (Lib.itoa n).length := by show (Lib.itoa n).toArray.size = _; simp
  rw [e]
  unfold Lib.itoa
  rw [if_neg (by omega)]
  exact digits_len _ (by omega)
end Go.Proofs.YthhjbmlkncdigaaGreatDoor
end
section
set_option linter.unusedSimpArgs false
set_option linter.unusedVariables false
namespace Go.Proofs.YthhjbmlkncdigaaGreatDoor
open Go Go.RowKit Go.Proofs
set_option maxHeartbeats 400000
theorem bs_size (l : List UInt8) : (bsS l).size = l.length := by show l.toArray.size = _; simp
end Go.Proofs.YthhjbmlkncdigaaGreatDoor
end
