/- Contracts of the program's test whether a machine is valid, continued. No condition. -/
import Derived.Test.YtdkdmcaehinkhaaDoorValid3
namespace Go.Proofs.YtdkdmcaehinkhaaDoor
open Go Go.RowKit Go.Proofs
set_option maxHeartbeats 400000
theorem sizeRule_c (v : Value) (rs : List RuleD) (w : World) (h : Rules w v rs) : Calls Tryd.prog 54 #[v] w fun e w' => e = .returned (.int .i64 rs.length) ∧ w = w' := by
  obtain ⟨A, c, rfl, h1, h2⟩ := h.form
  go_enter Tryd.func54, Tryd.ntmps54
  go_wp2
  go_ret
  exact ⟨rfl, rfl⟩
theorem sizeInt_c (v : Value) (zs : List Int) (w : World) (h : Ints w v zs) : Calls Tryd.prog 81 #[v] w fun e w' => e = .returned (.int .i64 zs.length) ∧ w = w' := by
  obtain ⟨A, c, rfl, h1, h2⟩ := h.form
  go_enter Tryd.func81, Tryd.ntmps81
  go_wp2
  go_ret
  exact ⟨rfl, rfl⟩
theorem sizeOk_c (n : Int) (w : World) : Calls Tryd.prog 30 #[.int .i64 n] w fun e w' => e = .returned (.bool (inB n 1 9)) ∧ w = w' := by
  go_enter Tryd.func30, Tryd.ntmps30
  go_wp2_with (go_at_call 53; refine (within_c _ _ _ _).mono ?_; rintro e w' ⟨rfl, rfl⟩)
  go_ret
  exact ⟨rfl, rfl⟩
theorem containsRule_c (b : Nat) (m : MachD) (v : Value) (w : World) (hv : Rules w v m.rules) (h : MachAt w b m) (h1 : 2 ≤ m.sy) (h2 : m.sy ≤ 6) (h3 : 1 ≤ m.st) (h4 : m.st ≤ 1000) :
    Calls Tryd.prog 55 #[v, .func (.func 56) #[] #[.pointer (some ⟨b, 0, none⟩)]] w fun e w' => e = .returned (.bool (!(m.rules.all (ruleOk m.sy m.st)))) ∧ Ext w w' := by
  go_enter Tryd.func55, Tryd.ntmps55
  go_wp2_with fail
  refine (indexRule_c b m v _ hv h h1 h2 h3 h4).mono ?_
  rintro e w2 ⟨⟨k, rfl, hk⟩, hx2⟩
  have HK := Lib.hid hk
  clear hk
  go_wp2
  go_ret
  exact ⟨by simp [← HK.out], hx2⟩
theorem ValidMachine_c (v : Value) (m : MachD) (w : World) (h : Mach w v m) :
    Calls Tryd.prog 29 #[v] w fun e w' => e = .returned (.bool (machOk m)) ∧ Ext w w' := by
  obtain ⟨rv, rfl, hr⟩ := h
  obtain ⟨A, c, rfl, h2, h2'⟩ := hr.form
  obtain ⟨w1, bk, e1, e2, hx, hB, _, p0, p1, p2⟩ := box3 w (.int .i64 m.sy) (.int .i64 m.st) (.slice A m.rules.length c) 31
  have hr := hr.ext hx
  have d0 := cellR p0
  have d1 := cellR p1
  have d2 := cellR p2
  have hM : MachAt w1 bk m := ⟨_, p0, p1, p2, hr⟩
  have E1 := Lib.hid e1
  have E2 := Lib.hid e2
  clear e1 e2 hB
  cases hsy : inB m.sy 2 6
  · have H : machOk m = false := by simp [machOk, hsy]
    go_enter Tryd.func29, Tryd.ntmps29
    go_wp2
    rw [E1.out, E2.out]
    refine wp_region_ext (by kernel_rfl) (by kernel_rfl) ?_
    repeat (go_big_quiet_step ((first | (go_at_call 53; exact Calls.sameR (within_c _ _ _ _)) | (go_at_call 54; exact Calls.sameR (sizeRule_c _ _ _ (hr.ext (below_regrown _ _ _)))))))
    refine wpQuiet_nil ?_
    intro w2 hx2
    go_wp2
    go_ret
    exact ⟨by simp [H], hx.trans hx2⟩
  cases hst : inB m.st 1 1000
  · have H : machOk m = false := by simp [machOk, hst]
    go_enter Tryd.func29, Tryd.ntmps29
    go_wp2
    rw [E1.out, E2.out]
    refine wp_region_ext (by kernel_rfl) (by kernel_rfl) ?_
    repeat (go_big_quiet_step ((first | (go_at_call 53; exact Calls.sameR (within_c _ _ _ _)) | (go_at_call 54; exact Calls.sameR (sizeRule_c _ _ _ (hr.ext (below_regrown _ _ _)))))))
    refine wpQuiet_nil ?_
    intro w2 hx2
    go_wp2
    go_ret
    exact ⟨by simp [H], hx.trans hx2⟩
  obtain ⟨s1, s2⟩ := inB_iff.1 hsy
  obtain ⟨s3, s4⟩ := inB_iff.1 hst
  obtain ⟨s5, s6⟩ := mul_bounds s1 s2 s3 s4
  rw [Int.mul_comm] at s5 s6
  by_cases hl : (m.rules.length : Int) = m.sy * m.st
  · have hl1 : ((m.rules.length : Int) != m.st * m.sy) = false := by rw [Int.mul_comm m.st]; simp [hl]
    have HL := Lib.hid hl
    clear hl
    go_enter Tryd.func29, Tryd.ntmps29
    go_wp2
    rw [E1.out, E2.out]
    refine wp_region_ext (by kernel_rfl) (by kernel_rfl) ?_
    repeat (go_big_quiet_step ((first | (go_at_call 53; exact Calls.sameR (within_c _ _ _ _)) | (go_at_call 54; exact Calls.sameR (sizeRule_c _ _ _ (hr.ext (below_regrown _ _ _)))))))
    refine wpQuiet_nil ?_
    intro w2 hx2
    have p2' := hx2.cell p2
    clear d0 d1 d2
    go_wp2_with fail
    refine (containsRule_c bk m _ _ (hr.ext hx2) (hM.ext hx2) s1 s2 s3 s4).mono ?_
    rintro e w3 ⟨rfl, hx3⟩
    go_wp2
    go_ret
    exact ⟨by simp [machOk, hsy, hst, HL.out], (hx.trans hx2).trans hx3⟩
  · have hl1 : ((m.rules.length : Int) != m.st * m.sy) = true := by rw [Int.mul_comm m.st]; simp [hl]
    have H : machOk m = false := by simp [machOk, hl]
    clear hl
    go_enter Tryd.func29, Tryd.ntmps29
    go_wp2
    rw [E1.out, E2.out]
    refine wp_region_ext (by kernel_rfl) (by kernel_rfl) ?_
    repeat (go_big_quiet_step ((first | (go_at_call 53; exact Calls.sameR (within_c _ _ _ _)) | (go_at_call 54; exact Calls.sameR (sizeRule_c _ _ _ (hr.ext (below_regrown _ _ _)))))))
    refine wpQuiet_nil ?_
    intro w2 hx2
    go_wp2
    go_ret
    exact ⟨by simp [H], hx.trans hx2⟩
end Go.Proofs.YtdkdmcaehinkhaaDoor
