/- Contracts of the tests whether rules and machines are valid, the program's and the reference's. No condition but that a rule is looked at for valid numbers of symbols and states. -/
import Derived.Test.YtdkdmcaehinkhaaDoorLaws3
namespace Go.Proofs.YtdkdmcaehinkhaaDoor
open Go Go.RowKit Go.Proofs
set_option maxHeartbeats 400000
def ruleOk (sy st : Int) (r : RuleD) : Bool := decide (r = noR) || (inB r.w 0 (sy - 1) && ((r.m == 1) || (r.m == -1)) && inB r.n 0 (st - 1))
theorem ruleWays (sy st a b c : Int) (h : ¬ (⟨a, b, c⟩ : RuleD) = noR) : (inB a 0 (sy - 1) = false ∧ ruleOk sy st ⟨a, b, c⟩ = false) ∨
    (inB a 0 (sy - 1) = true ∧ (b == 1) = true ∧ (b == -1) = false ∧ inB c 0 (st - 1) = false ∧ ruleOk sy st ⟨a, b, c⟩ = false) ∨ (inB a 0 (sy - 1) = true ∧ (b == 1) = true ∧ (b == -1) = false ∧ inB c 0 (st - 1) = true ∧ ruleOk sy st ⟨a, b, c⟩ = true) ∨
    (inB a 0 (sy - 1) = true ∧ (b == 1) = false ∧ (b == -1) = true ∧ inB c 0 (st - 1) = false ∧ ruleOk sy st ⟨a, b, c⟩ = false) ∨ (inB a 0 (sy - 1) = true ∧ (b == 1) = false ∧ (b == -1) = true ∧ inB c 0 (st - 1) = true ∧ ruleOk sy st ⟨a, b, c⟩ = true) ∨
    (inB a 0 (sy - 1) = true ∧ (b == 1) = false ∧ (b == -1) = false ∧ ruleOk sy st ⟨a, b, c⟩ = false) := by
  unfold ruleOk
  have h' : decide ((⟨a, b, c⟩ : RuleD) = noR) = false := by simpa using h
  rw [h']
  by_cases e1 : b = 1
  · subst e1
    cases inB a 0 (sy - 1) <;> cases inB c 0 (st - 1) <;> simp
  · by_cases e2 : b = -1
    · subst e2
      cases inB a 0 (sy - 1) <;> cases inB c 0 (st - 1) <;> simp
    · have e1' : (b == 1) = false := by simp [e1]
      have e2' : (b == -1) = false := by simp [e2]
      cases inB a 0 (sy - 1) <;> cases inB c 0 (st - 1) <;> simp [e1', e2']
theorem l05Rule_c (a b c sy st : Int) (w : World) (h1 : 2 ≤ sy) (h2 : sy ≤ 6) (h3 : 1 ≤ st) (h4 : st ≤ 1000) : Calls Tryd.prog 47 #[.agg #[.int .i64 a, .int .i64 b, .int .i64 c], .int .i64 sy, .int .i64 st] w fun e w' => e = .returned (.bool (ruleOk sy st ⟨a, b, c⟩)) ∧ Ext w w' := by
  have rn := ruleEql_run
  by_cases hn : (⟨a, b, c⟩ : RuleD) = noR
  · have H : ruleOk sy st ⟨a, b, c⟩ = true := by simp [ruleOk, hn]
    simp only [noR, RuleD.mk.injEq] at hn
    obtain ⟨rfl, rfl, rfl⟩ := hn
    have hnb : rEq ⟨0, 0, -1⟩ ⟨0, 0, -1⟩ = true := by simp [rEq]
    go_enter Tryd.func47, Tryd.ntmps47
    go_wp2
    obtain ⟨w1, bk, e1, e2, hx, hB, _, c0, c1, c2⟩ := box3 w (.int .i64 0) (.int .i64 0) (.int .i64 (-1)) 79
    rw [e1, e2]
    clear e1 e2
    have d0 := cellR c0
    have d1 := cellR c1
    have d2 := cellR c2
    refine wp_region_ext (by kernel_rfl) (by kernel_rfl) ?_
    repeat (go_big_quiet_step ((go_at_call 69; exact Calls.extR (l05None_c _))))
    refine wpQuiet_nil ?_
    intro w2 hx2
    go_wp2
    go_ret
    exact ⟨by simp [H], hx.trans hx2⟩
  · have hnb : rEq ⟨a, b, c⟩ ⟨0, 0, -1⟩ = false := by simpa [rEq, noR] using hn
    have hw := ruleWays sy st a b c hn
    clear hn
    go_enter Tryd.func47, Tryd.ntmps47
    go_wp2
    obtain ⟨w1, bk, e1, e2, hx, hB, _, c0, c1, c2⟩ := box3 w (.int .i64 a) (.int .i64 b) (.int .i64 c) 79
    rw [e1, e2]
    clear e1 e2
    have d0 := cellR c0
    have d1 := cellR c1
    have d2 := cellR c2
    refine wp_region_ext (by kernel_rfl) (by kernel_rfl) ?_
    repeat (go_big_quiet_step ((go_at_call 69; exact Calls.extR (l05None_c _))))
    refine wpQuiet_nil ?_
    intro w2 hx2
    have c0 := hx2.cell c0
    have c1 := hx2.cell c1
    have c2 := hx2.cell c2
    clear d0 d1 d2 rn
    rcases hw with ⟨p1, p2⟩ | ⟨p1, p2, p3, p4, p5⟩ | ⟨p1, p2, p3, p4, p5⟩ | ⟨p1, p2, p3, p4, p5⟩ | ⟨p1, p2, p3, p4, p5⟩ | ⟨p1, p2, p3, p4⟩
    all_goals
      go_wp2_with (go_at_call 26; refine (l00In_c _ _ _ _).mono ?_; rintro e w' ⟨rfl, rfl⟩)
      go_ret
      exact ⟨by simp [*], hx.trans hx2⟩
end Go.Proofs.YtdkdmcaehinkhaaDoor
