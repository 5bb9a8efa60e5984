/- Contracts of the laws' copies of machines. No condition. -/
import Derived.Test.YtdkdmcaehinkhaaDoorLaws1
namespace Go.Proofs.YtdkdmcaehinkhaaDoor
open Go Go.RowKit Go.Proofs
set_option maxHeartbeats 400000
theorem toRule_c (a b c : Int) (w : World) : Calls Tryd.prog 52 #[.agg #[.int .i64 a, .int .i64 b, .int .i64 c]] w fun e w' => e = .returned (.agg #[.int .i64 a, .int .i64 b, .int .i64 c]) ∧ Ext w w' := by
  go_enter Tryd.func52, Tryd.ntmps52
  go_wp2
  refine bodyPost_ret (v := .agg #[.int .i64 a, .int .i64 b, .int .i64 c]) (by simp [results, Tryd.results52, go_sem]) rfl ⟨rfl, ?_⟩
  exact ((Ext.alloc _ _).trans (Ext.alloc _ _)).trans (Ext.alloc _ _)
theorem szRuleS_c (v : Value) (n : Nat) (xs : List Value) (left : Int) (w : World) (h : Row w 3 v n xs) (h0 : 0 ≤ left) (h1 : left ≤ 1048576) :
    Calls Tryd.prog 24 #[v, .int .i64 left] w fun e w' => e = .returned (.int .i64 (if left < n then -1 else left - n)) ∧ w = w' := by
  obtain ⟨A, c, rfl, h2, h3, _⟩ := h.form
  by_cases hl : left < n
  · go_enter Tryd.func24, Tryd.ntmps24
    go_wp2
    go_ret
    exact ⟨by simp, rfl⟩
  · go_enter Tryd.func24, Tryd.ntmps24
    go_wp2
    go_ret
    exact ⟨by simp, rfl⟩
/-- A machine. -/
structure MachD where
  sy : Int
  st : Int
  rules : List RuleD
deriving DecidableEq
def Mach (w : World) (v : Value) (m : MachD) : Prop := ∃ rv, v = .agg #[.int .i64 m.sy, .int .i64 m.st, rv] ∧ Rules w rv m.rules
theorem Mach.ext {w w' : World} {v : Value} {m : MachD} (h : Mach w v m) (he : Ext w w') : Mach w' v m := by
  obtain ⟨rv, hv, hr⟩ := h; exact ⟨rv, hv, hr.ext he⟩
theorem szMachine_c (v : Value) (m : MachD) (left : Int) (w : World) (h : Mach w v m) (h0 : 0 ≤ left) (h1 : left ≤ 1048576) :
    Calls Tryd.prog 6 #[v, .int .i64 left] w fun e w' => e = .returned (.int .i64 (if left < m.rules.length then -1 else left - m.rules.length)) ∧ Ext w w' := by
  obtain ⟨rv, rfl, hr⟩ := h
  go_enter Tryd.func6, Tryd.ntmps6
  go_wp2_with fail
  have hx := Ext.alloc w (.cells #[.int .i64 m.sy, .int .i64 m.st, rv] 24)
  by_cases hl : left < m.rules.length
  · refine (szRuleS_c _ _ _ _ _ (Row.ext hr hx) h0 h1).mono ?_
    rintro e w' ⟨rfl, rfl⟩
    rw [if_pos hl]
    go_wp2
    go_ret
    exact ⟨by simp, hx⟩
  · refine (szRuleS_c _ _ _ _ _ (Row.ext hr hx) h0 h1).mono ?_
    rintro e w' ⟨rfl, rfl⟩
    rw [if_neg hl]
    go_wp2
    go_ret
    exact ⟨by simp, hx⟩
end Go.Proofs.YtdkdmcaehinkhaaDoor
