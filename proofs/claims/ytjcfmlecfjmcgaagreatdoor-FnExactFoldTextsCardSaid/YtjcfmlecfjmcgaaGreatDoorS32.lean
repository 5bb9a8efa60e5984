/- Contract of the text of a rule. The rule is one of a valid machine; the library's table is as its text lays it.
Contracts: the number of a decimal form, and the rule of a text. The texts are those that the program makes; the library's table is as its text lays it. -/
import Derived.Test.YtjcfmlecfjmcgaaGreatDoorS24
import Derived.Test.YtjcfmlecfjmcgaaGreatDoorS07
import Derived.Test.YtjcfmlecfjmcgaaGreatDoorS22
section
set_option linter.unusedSimpArgs false
set_option linter.unusedVariables false
namespace Go.Proofs.YtjcfmlecfjmcgaaGreatDoor
open Go Go.RowKit Go.Proofs
set_option maxHeartbeats 400000
theorem bs_app (a b : List UInt8) : bsS a ++ bsS b = bsS (a ++ b) := by
  apply ByteArray.ext
  simp [bsS]
theorem itoaS_size {n : Int} (h0 : 0 ≤ n) (h1 : n ≤ 1000000) : (itoaS n).size ≤ 18 := by
  have e : (itoaS n).size = (Lib.itoa n).length := by show (Lib.itoa n).toArray.size = _; simp
  rw [e]
  unfold Lib.itoa
  rw [if_neg (by omega)]
  exact digits_len _ (by omega)
theorem ruleT_app {r : RuleD} (hr : r ≠ noR) (c : UInt8) (hc : c = if r.m < 0 then 76 else 82) : itoaS r.w ++ ⟨#[c]⟩ ++ itoaS r.n = bsS (ruleT r) := by
  have e : ruleT r = Lib.itoa r.w ++ [c] ++ Lib.itoa r.n := by
    unfold ruleT
    rw [if_neg hr, ← hc]
    simp
  rw [e, ← bs_app, ← bs_app]
  rfl
end Go.Proofs.YtjcfmlecfjmcgaaGreatDoor
end
section
set_option linter.unusedSimpArgs false
set_option linter.unusedVariables false
namespace Go.Proofs.YtjcfmlecfjmcgaaGreatDoor
open Go Go.RowKit Go.Proofs
set_option maxHeartbeats 400000
theorem itoa_nat {n : Int} (h0 : 0 ≤ n) : Lib.itoa n = Lib.decDigits n.toNat := by
  unfold Lib.itoa
  rw [if_neg (by omega)]
theorem itoa_len {n : Int} (h0 : 0 ≤ n) (h1 : n ≤ 1000000) : (Lib.itoa n).length ≤ 18 := by
  rw [itoa_nat h0]
  exact digits_len _ (by omega)
theorem trim_itoa {n : Int} (h0 : 0 ≤ n) : Lib.trimPrefix (Lib.itoa n) [45] = Lib.itoa n := by
  have hd := itoa_dig h0
  cases hl : Lib.itoa n with
  | nil => rfl
  | cons c r =>
    have hc := hd c (by rw [hl]; exact List.mem_cons_self)
    have hne : ¬ (45 : UInt8) = c := fun e => by subst e; exact absurd hc (by decide)
    have h1 : [(45 : UInt8)].isPrefixOf (c :: r) = false := by
      show (45 == c && _) = false
      rw [beq_eq_false_iff_ne.2 hne]
      rfl
    unfold Lib.trimPrefix Lib.hasPrefix
    rw [h1]
    rfl
end Go.Proofs.YtjcfmlecfjmcgaaGreatDoor
end
