/- Contract of the reference's test of an automaton, and of the program's product of two automata.
Contracts on the program's automata, whatever they are. -/
import Derived.Test.YtacpchapgklcgaaGreatDoorQ36
import Derived.Test.YtacpchapgklcgaaGreatDoorQ42
section
set_option linter.unusedSimpArgs false
set_option linter.unusedVariables false
set_option linter.unusedSectionVars false
set_option maxHeartbeats 4000000
namespace Go.Proofs.YtacpchapgklcgaaGreatDoor
open Go Go.RowKit Go.Proofs
theorem dfa_no_st {d : DfaD} {sy : Int} (h : inB d.st 1 20 = false) : dfaOk d sy = false := by simp [dfaOk, h]
theorem dfa_no_len {d : DfaD} {sy : Int} (h : ¬ (d.nx.length : Int) = d.st * sy) : dfaOk d sy = false := by simp [dfaOk, h]
theorem dfa_no_zero {d : DfaD} {sy : Int} {z : Int} {l : List Int} (e : d.nx = z :: l) (h : ¬ z = 0) : dfaOk d sy = false := by simp [dfaOk, e, h]
theorem dfa_no_all {d : DfaD} {sy : Int} {k : Nat} (hk : k < d.nx.length) (h : inB d.nx[k] 0 (d.st - 1) = false) : dfaOk d sy = false := by
  have : (d.nx.all fun z => inB z 0 (d.st - 1)) = false := all_no hk h
  simp [dfaOk, this]
theorem dfa_yes {d : DfaD} {sy z : Int} {l : List Int} (s1 : 2 ≤ sy) (s2 : sy ≤ 6) (h1 : inB d.st 1 20 = true) (h2 : (d.nx.length : Int) = d.st * sy) (e : d.nx = z :: l) (h3 : z = 0) (h4 : allTo (fun z => inB z 0 (d.st - 1)) d.nx d.nx.length) : dfaOk d sy = true := by
  have := allTo_end h4 (Nat.le_refl _)
  have hb : inB sy 2 6 = true := inB_iff.2 ⟨s1, s2⟩
  unfold dfaOk
  rw [hb, h1, this, h2, e, h3]
  simp
end Go.Proofs.YtacpchapgklcgaaGreatDoor
end
section
set_option linter.unusedSimpArgs false
set_option linter.unusedVariables false
set_option linter.unusedSectionVars false
set_option maxHeartbeats 4000000
namespace Go.Proofs.YtacpchapgklcgaaGreatDoor
open Go Go.RowKit Go.Proofs
theorem dfa_ok_of {d : DfaD} {sy : Int} (s1 : 2 ≤ sy) (s2 : sy ≤ 6) (h1 : inB d.st 1 20 = true) (h2 : (d.nx.length : Int) = d.st * sy) (h3 : (d.nx.all fun z => inB z 0 (d.st - 1)) = true) : dfaOk d sy = (d.nx.getD 0 0 == 0) := by
  simp only [dfaOk, h1, inB_iff.2 ⟨s1, s2⟩, h2, h3, decide_true, Bool.true_and]
theorem ValidDfa_g (v : Value) (d : DfaD) (sy : Int) (w : World) (h : Dfas w v d) (s1 : 2 ≤ sy) (s2 : sy ≤ 6) :
    Calls Tryz.prog 58 #[v, .int .i64 sy] w fun e w' => e = .returned (.bool (dfaOk d sy)) ∧ Ext w w' := by
  obtain ⟨rv, rfl, hr⟩ := h
  obtain ⟨A, c, rfl, g1, g2⟩ := hr.form
  have hB1 : inB sy 2 6 = true := inB_iff.2 ⟨s1, s2⟩
  obtain ⟨w1, bk, e1, e2, hx, p0, p1, bB, hsz⟩ := box2 w (.int .i64 d.st) (.slice A d.nx.length c) 40
  have E1 := Lib.hid e1
  have E2 := Lib.hid e2
  clear e1 e2
  have d0 := cellR p0
  have d1 := cellR p1
  have hr1 := hr.ext hx
  have hS1 := fun W => symbolsOk_c sy W
  have hS2 := fun W => within_c d.st 1 20 W
  have hS3 := fun D os => allWithin_c _ _ 0 (d.st - 1) _ (hr1.ext (below_regrown w1 D os))
  simp only [hB1] at hS1
  cases hB2 : inB d.st 1 20 with
  | false =>
    have HE : Hid (dfaOk d sy = false) := Lib.hid (dfa_no_st hB2)
    simp only [hB2] at hS2
    go_enter Tryz.func58, Tryz.ntmps58
    go_wp2
    rw [E1.out, E2.out]
    refine wp_region_ext (by kernel_rfl) (by kernel_rfl) ?_
    repeat (go_big_quiet_step ((first | (go_at_call 92; exact Calls.sameR (hS1 _)) | (go_at_call 24; exact Calls.sameR (hS2 _)) | (go_at_call 40; exact Calls.sameR (sizeInt_c _ _ _ (hr1.ext (below_regrown _ _ _)))) | (go_at_call 84; exact Calls.sameR (hS3 _ _)))))
    refine wpQuiet_nil ?_
    intro w2 hx2
    go_wp2
    go_ret
    exact ⟨by rw [HE.out]; rfl, hx.trans hx2⟩
  | true =>
    obtain ⟨h2, h2'⟩ := inB_iff.1 hB2
    have hmul : 0 ≤ d.st * sy ∧ d.st * sy ≤ 120 := by
      have := Int.mul_le_mul h2' s2 (by omega) (by omega)
      have := Int.mul_nonneg (show 0 ≤ d.st by omega) (show 0 ≤ sy by omega)
      omega
    have hmul2 : 1 ≤ d.st * sy := by
      have := Int.mul_le_mul h2 s1 (by omega) (by omega)
      omega
    have hw1 : IntKind.i64.wrap (d.st * sy) = d.st * sy := IntWalk.i64_in _ (by omega)
    simp only [hB2] at hS2
    have HB2 := Lib.hid hB2
    by_cases hl : (d.nx.length : Int) = d.st * sy
    · have hl1 : ((d.nx.length : Int) == d.st * sy) = true := by simp [hl]
      cases hB3 : (d.nx.all fun z => inB z 0 (d.st - 1)) with
      | false =>
        have HE : Hid (dfaOk d sy = false) := Lib.hid (by simp only [dfaOk, hB3, Bool.and_false, Bool.false_and])
        simp only [hB3] at hS3
        clear hl
        go_enter Tryz.func58, Tryz.ntmps58
        go_wp2
        rw [E1.out, E2.out]
        refine wp_region_ext (by kernel_rfl) (by kernel_rfl) ?_
        repeat (go_big_quiet_step ((first | (go_at_call 92; exact Calls.sameR (hS1 _)) | (go_at_call 24; exact Calls.sameR (hS2 _)) | (go_at_call 40; exact Calls.sameR (sizeInt_c _ _ _ (hr1.ext (below_regrown _ _ _)))) | (go_at_call 84; exact Calls.sameR (hS3 _ _)))))
        refine wpQuiet_nil ?_
        intro w2 hx2
        go_wp2
        go_ret
        exact ⟨by rw [HE.out]; rfl, hx.trans hx2⟩
      | true =>
        have HE0 := Lib.hid (dfa_ok_of s1 s2 HB2.out hl hB3)
        simp only [hB3] at hS3
        have hk : 0 < d.nx.length := by omega
        obtain ⟨b, off, rfl, hc⟩ := hr.at hk
        have c0 := hc 0 hk
        simp only [Nat.add_zero] at c0
        have HE : Hid (dfaOk d sy = (d.nx[0] == 0)) := by
          have := HE0.out
          rw [List.getD_eq_getElem?_getD, List.getElem?_eq_getElem hk] at this
          exact this
        have dd2 := cellR (hx.cell c0)
        have hk0 : (0 : Int) < (d.nx.length : Int) := by omega
        clear hc hl hB3 c0
        generalize d.nx[0] = z at *
        by_cases hz : z = 0
        · subst hz
          go_enter Tryz.func58, Tryz.ntmps58
          go_wp2
          rw [E1.out, E2.out]
          refine wp_region_ext (by kernel_rfl) (by kernel_rfl) ?_
          repeat (go_big_quiet_step ((first | (go_at_call 92; exact Calls.sameR (hS1 _)) | (go_at_call 24; exact Calls.sameR (hS2 _)) | (go_at_call 40; exact Calls.sameR (sizeInt_c _ _ _ (hr1.ext (below_regrown _ _ _)))) | (go_at_call 84; exact Calls.sameR (hS3 _ _)))))
          refine wpQuiet_nil ?_
          intro w2 hx2
          go_wp2
          go_ret
          exact ⟨by rw [HE.out]; rfl, hx.trans hx2⟩
        · have hz1 : (z == 0) = false := by simp [hz]
          have hz2 : decide (z = 0) = false := by simp [hz]
          rw [hz1] at HE
          go_enter Tryz.func58, Tryz.ntmps58
          go_wp2
          rw [E1.out, E2.out]
          refine wp_region_ext (by kernel_rfl) (by kernel_rfl) ?_
          repeat (go_big_quiet_step ((first | (go_at_call 92; exact Calls.sameR (hS1 _)) | (go_at_call 24; exact Calls.sameR (hS2 _)) | (go_at_call 40; exact Calls.sameR (sizeInt_c _ _ _ (hr1.ext (below_regrown _ _ _)))) | (go_at_call 84; exact Calls.sameR (hS3 _ _)))))
          refine wpQuiet_nil ?_
          intro w2 hx2
          go_wp2
          go_ret
          exact ⟨by rw [HE.out]; rfl, hx.trans hx2⟩
    · have hl1 : ((d.nx.length : Int) == d.st * sy) = false := by simp [hl]
      have HE : Hid (dfaOk d sy = false) := Lib.hid (dfa_no_len hl)
      clear hl
      go_enter Tryz.func58, Tryz.ntmps58
      go_wp2
      rw [E1.out, E2.out]
      refine wp_region_ext (by kernel_rfl) (by kernel_rfl) ?_
      repeat (go_big_quiet_step ((first | (go_at_call 92; exact Calls.sameR (hS1 _)) | (go_at_call 24; exact Calls.sameR (hS2 _)) | (go_at_call 40; exact Calls.sameR (sizeInt_c _ _ _ (hr1.ext (below_regrown _ _ _)))) | (go_at_call 84; exact Calls.sameR (hS3 _ _)))))
      refine wpQuiet_nil ?_
      intro w2 hx2
      go_wp2
      go_ret
      exact ⟨by rw [HE.out]; rfl, hx.trans hx2⟩
end Go.Proofs.YtacpchapgklcgaaGreatDoor
end
