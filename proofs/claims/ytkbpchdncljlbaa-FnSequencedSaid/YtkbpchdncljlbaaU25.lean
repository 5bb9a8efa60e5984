/- Contracts of the reference's tests of lists of a machine with several tapes, and of its order of rules. No condition.
Contracts of the reference's order of rules and of its test of a machine with several tapes. No condition. -/
import Derived.Test.YtkbpchdncljlbaaU11
import Derived.Test.YtkbpchdncljlbaaU02
import Derived.Test.YtkbpchdncljlbaaU07
import Derived.Test.YtkbpchdncljlbaaU12
section
set_option linter.unusedVariables false
set_option linter.unusedSimpArgs false
namespace Go.Proofs.Ytkbpchdncljlbaa
open Go Go.RowKit Go.Proofs
set_option maxHeartbeats 400000
theorem l06Row_c (v : Value) (xs : List Int) (tp lo hi : Int) (w : World) (h : Ints w v xs) :
    Calls Try.prog 78 #[v, .int .i64 tp, .int .i64 lo, .int .i64 hi] w fun e w' => e = .returned (.bool (decide ((xs.length : Int) = tp) && xs.all fun z => inB z lo hi)) ∧ w = w' := by
  obtain ⟨A, c, rfl, h1, h2⟩ := h.form
  by_cases hn : (xs.length : Int) = tp
  · have hne : ((xs.length : Int) != tp) = false := by simp [hn]
    rw [decide_eq_true hn]
    clear hn
    go_enter Try.func78, Try.ntmps78
    go_wp2_with fail
    go_loopw [9] (fun i wr => ∃ k : Nat, k ≤ xs.length ∧ i = .int .i64 (k : Int) ∧ wr = w ∧ allTo (fun z => inB z lo hi) xs k) (fun i _ => xs.length - (intOf i).toNat)
    case atStart => exact ⟨0, Nat.zero_le _, rfl, rfl, rfl⟩
    case round =>
      obtain ⟨k, hk, rfl, rfl, ht⟩ := hrel
      by_cases hlt : k < xs.length
      · obtain ⟨b, off, rfl, hc⟩ := h.at hlt
        have c0 := hc k hlt
        have LI := l00In_c xs[k] lo hi wr
        have HNX : Hid (inB xs[k] lo hi = true → allTo (fun z => inB z lo hi) xs (k + 1)) := Lib.hid fun hb => by
          unfold allTo at ht ⊢
          rw [List.take_succ_eq_append_getElem hlt, List.all_append, ht]
          simp [hb]
        have HNO : Hid (inB xs[k] lo hi = false → (xs.all fun z => inB z lo hi) = false) := Lib.hid fun hb => all_no hlt hb
        generalize xs[k] = z at *
        generalize inB z lo hi = b at *
        cases b with
        | true =>
          have HN := Lib.hid (HNX.out rfl)
          clear hc ht HNX HNO
          go_wp2_with fail
          refine LI.mono ?_
          rintro e _ ⟨rfl, rfl⟩
          go_wp2_with fail
          go_roundw
          case rel => exact ⟨k + 1, by omega, by go_num, by first | rfl | trivial, HN.out⟩
          case measure => simp [intOf]; omega
        | false =>
          have HN := Lib.hid (HNO.out rfl)
          clear hc ht HNX HNO
          go_wp2_with fail
          refine LI.mono ?_
          rintro e _ ⟨rfl, rfl⟩
          go_wp2_with fail
          go_ret
          exact ⟨by rw [HN.out]; rfl, rfl⟩
      · obtain rfl : k = xs.length := by omega
        have HN : Hid ((xs.all fun z => inB z lo hi) = true) := Lib.hid (by
          unfold allTo at ht
          rwa [List.take_length] at ht)
        clear ht
        go_wp2_with fail
        go_ret
        exact ⟨by rw [HN.out]; rfl, rfl⟩
  · have hne : ((xs.length : Int) != tp) = true := by simp [hn]
    rw [decide_eq_false hn]
    clear hn
    go_enter Try.func78, Try.ntmps78
    go_wp2_with fail
    go_ret
    exact ⟨rfl, rfl⟩
theorem l01Compare_c (w : World) (u v : Value) (xs ys : List Int) (ha : Ints w u xs) (hb : Ints w v ys) :
    Calls Try.prog 95 #[u, v] w fun e w' => e = .returned (.int .i64 (cmpL xs ys)) ∧ Ext w w' := by
  obtain ⟨A, c, rfl, g1, g2⟩ := ha.form
  obtain ⟨B, d, rfl, g3, g4⟩ := hb.form
  go_enter Try.func95, Try.ntmps95
  go_wp2_with fail
  go_loopw [5] (fun i wr => ∃ k : Nat, k ≤ xs.length ∧ k ≤ ys.length ∧ i = .int .i64 (k : Int) ∧ Ext w wr ∧ Hid (cmpL (xs.drop k) (ys.drop k) = cmpL xs ys)) (fun i _ => xs.length - (intOf i).toNat)
  case atStart => exact ⟨0, Nat.zero_le _, Nat.zero_le _, rfl, Ext.refl _, rfl⟩
  case round =>
    obtain ⟨k, hk1, hk2, rfl, hx, HD⟩ := hrel
    by_cases h1 : k < xs.length
    · by_cases h2 : k < ys.length
      · obtain ⟨b1, o1, rfl, hc1⟩ := (ha.ext hx).at h1
        obtain ⟨b2, o2, rfl, hc2⟩ := (hb.ext hx).at h2
        have c1 := hc1 k h1
        have c2 := hc2 k h2
        have HS : Hid (cmpL xs ys = if xs[k] < ys[k] then -1 else if ys[k] < xs[k] then 1 else cmpL (xs.drop (k + 1)) (ys.drop (k + 1))) := by
          unfold Hid
          rw [← HD.out, cmpL_drop h1 h2]
        generalize xs[k] = x at *
        generalize ys[k] = y at *
        clear hc1 hc2
        have q1 := cellR c1
        have q2 := cellR c2
        by_cases h3 : x < y
        · have HT : Hid (cmpL xs ys = -1) := by unfold Hid; rw [HS.out, if_pos h3]
          go_wp2_with fail
          refine wp_region_ext (by kernel_rfl) (by kernel_rfl) ?_
          repeat (go_big_quiet_step (fail))
          refine wpQuiet_nil ?_
          intro w2 hx2
          go_wp2_with fail
          go_ret
          exact ⟨by rw [HT.out]; rfl, hx.trans hx2⟩
        · by_cases h4 : y < x
          · have HT : Hid (cmpL xs ys = 1) := by unfold Hid; rw [HS.out, if_neg h3, if_pos h4]
            go_wp2_with fail
            refine wp_region_ext (by kernel_rfl) (by kernel_rfl) ?_
            repeat (go_big_quiet_step (fail))
            refine wpQuiet_nil ?_
            intro w2 hx2
            have r1 := cellR (hx2.cell c1)
            have r2 := cellR (hx2.cell c2)
            clear q1 q2
            go_wp2_with fail
            refine wp_region_ext (by kernel_rfl) (by kernel_rfl) ?_
            repeat (go_big_quiet_step (fail))
            refine wpQuiet_nil ?_
            intro w3 hx3
            go_wp2_with fail
            go_ret
            exact ⟨by rw [HT.out]; rfl, (hx.trans hx2).trans hx3⟩
          · have HT : Hid (cmpL (xs.drop (k + 1)) (ys.drop (k + 1)) = cmpL xs ys) := by unfold Hid; rw [HS.out, if_neg h3, if_neg h4]
            go_wp2_with fail
            refine wp_region_ext (by kernel_rfl) (by kernel_rfl) ?_
            repeat (go_big_quiet_step (fail))
            refine wpQuiet_nil ?_
            intro w2 hx2
            have r1 := cellR (hx2.cell c1)
            have r2 := cellR (hx2.cell c2)
            clear q1 q2
            go_wp2_with fail
            refine wp_region_ext (by kernel_rfl) (by kernel_rfl) ?_
            repeat (go_big_quiet_step (fail))
            refine wpQuiet_nil ?_
            intro w3 hx3
            go_wp2_with fail
            go_roundw
            case rel => exact ⟨k + 1, by omega, by omega, by go_num, (hx.trans hx2).trans hx3, HT.out⟩
            case measure => simp [intOf]; omega
      · obtain rfl : k = ys.length := by omega
        have HS : Hid (cmpL xs ys = 1) := by unfold Hid; rw [← HD.out, cmpL_out h1 (Nat.le_refl _)]
        go_wp2_with fail
        go_ret
        exact ⟨by rw [HS.out]; rfl, hx⟩
    · obtain rfl : k = xs.length := by omega
      have HS : Hid (cmpL xs ys = if xs.length < ys.length then -1 else 0) := by unfold Hid; rw [← HD.out, cmpL_end (Nat.le_refl _)]
      by_cases h3 : xs.length < ys.length
      · have HT : Hid (cmpL xs ys = -1) := by unfold Hid; rw [HS.out, if_pos h3]
        go_wp2_with fail
        go_ret
        exact ⟨by rw [HT.out]; rfl, hx⟩
      · have HT : Hid (cmpL xs ys = 0) := by unfold Hid; rw [HS.out, if_neg h3]
        have h4 : ys.length = xs.length := by omega
        go_wp2_with fail
        go_ret
        exact ⟨by rw [HT.out]; rfl, hx⟩
theorem l06Side_c (v : Value) (xs : List Int) (sy : Int) (w : World) (h : Ints w v xs) (s1 : 1 ≤ sy) (s2 : sy ≤ 1000000) :
    Calls Try.prog 80 #[v, .int .i64 sy] w fun e w' => e = .returned (.bool (sideOk xs sy 200)) ∧ w = w' := by
  obtain ⟨A, c, rfl, h1, h2⟩ := h.form
  have hw : IntKind.i64.wrap (sy - 1) = sy - 1 := IntWalk.i64_in _ (by omega)
  by_cases hn : xs.length ≤ 200
  · have hne : ¬ (200 : Int) < (xs.length : Int) := by omega
    have HS : Hid (sideOk xs sy 200 = ((xs.all fun z => inB z 0 (sy - 1)) && (((xs.length : Int) == 0) || xs.getLastD 0 != 0))) := by
      unfold Hid sideOk
      rw [decide_eq_true (by omega), Bool.true_and]
    rw [HS.out]
    go_enter Try.func80, Try.ntmps80
    go_wp2_with fail
    go_loopw [5] (fun i wr => ∃ k : Nat, k ≤ xs.length ∧ i = .int .i64 (k : Int) ∧ wr = w ∧ allTo (fun z => inB z 0 (sy - 1)) xs k) (fun i _ => xs.length - (intOf i).toNat)
    case atStart => exact ⟨0, Nat.zero_le _, rfl, rfl, rfl⟩
    case round =>
      obtain ⟨k, hk, rfl, rfl, ht⟩ := hrel
      by_cases hlt : k < xs.length
      · obtain ⟨b, off, rfl, hc⟩ := h.at hlt
        have c0 := hc k hlt
        have LI := l00In_c xs[k] 0 (sy - 1) wr
        have HNX : Hid (inB xs[k] 0 (sy - 1) = true → allTo (fun z => inB z 0 (sy - 1)) xs (k + 1)) := Lib.hid fun hb => by
          unfold allTo at ht ⊢
          rw [List.take_succ_eq_append_getElem hlt, List.all_append, ht]
          simp [hb]
        have HNO : Hid (inB xs[k] 0 (sy - 1) = false → (xs.all fun z => inB z 0 (sy - 1)) = false) := Lib.hid fun hb => all_no hlt hb
        generalize xs[k] = z at *
        generalize inB z 0 (sy - 1) = b at *
        cases b with
        | true =>
          have HN := Lib.hid (HNX.out rfl)
          clear hc ht HNX HNO
          go_wp2_with fail
          refine LI.mono ?_
          rintro e _ ⟨rfl, rfl⟩
          go_wp2_with fail
          go_roundw
          case rel => exact ⟨k + 1, by omega, by go_num, by first | rfl | trivial, HN.out⟩
          case measure => simp [intOf]; omega
        | false =>
          have HN := Lib.hid (HNO.out rfl)
          clear hc ht HNX HNO
          go_wp2_with fail
          refine LI.mono ?_
          rintro e _ ⟨rfl, rfl⟩
          go_wp2_with fail
          go_ret
          exact ⟨by rw [HN.out]; rfl, rfl⟩
      · obtain rfl : k = xs.length := by omega
        have HN : Hid ((xs.all fun z => inB z 0 (sy - 1)) = true) := Lib.hid (by
          unfold allTo at ht
          rwa [List.take_length] at ht)
        clear ht
        by_cases h0 : xs.length = 0
        · have hb0 : ((xs.length : Int) == 0) = true := by simp [h0]
          go_wp2_with fail
          go_ret
          exact ⟨by rw [HN.out]; simp [h0], rfl⟩
        · have hb0 : ((xs.length : Int) == 0) = false := by simp [h0]
          have hp : 0 < xs.length := by omega
          obtain ⟨b, off, rfl, hc⟩ := h.at (k := xs.length - 1) (by omega)
          have c0 := hc (xs.length - 1) (by omega)
          have HL : Hid (xs.getLastD 0 = xs[xs.length - 1]) := lastD_get hp
          have hi1 : (((xs.length : Int) - 1)).toNat = xs.length - 1 := by omega
          have hw1 : IntKind.i64.wrap ((xs.length : Int) - 1) = (xs.length : Int) - 1 := IntWalk.i64_in _ (by omega)
          generalize xs[xs.length - 1] = z at *
          clear hc
          go_wp2_with fail
          go_ret
          exact ⟨by rw [HN.out, HL.out]; simp [h0], rfl⟩
  · have hne : (200 : Int) < (xs.length : Int) := by omega
    have HS : Hid (sideOk xs sy 200 = false) := by
      unfold Hid sideOk
      rw [decide_eq_false (by omega), Bool.false_and, Bool.false_and]
    rw [HS.out]
    go_enter Try.func80, Try.ntmps80
    go_wp2_with fail
    go_ret
    exact ⟨rfl, rfl⟩
end Go.Proofs.Ytkbpchdncljlbaa
end
section
set_option linter.unusedVariables false
set_option linter.unusedSimpArgs false
namespace Go.Proofs.Ytkbpchdncljlbaa
open Go Go.RowKit Go.Proofs
set_option maxHeartbeats 400000
set_option maxRecDepth 20000 in
set_option maxHeartbeats 1000000 in
theorem l06Before_c (b1 o1 b2 o2 : Nat) (a b : MRuleD) (u v : Value) (w : World) (c0 : w.cell? ⟨b1, o1, none⟩ = some (.int .i64 a.st)) (c1 : w.cell? ⟨b1, o1 + 1, none⟩ = some u) (d0 : w.cell? ⟨b2, o2, none⟩ = some (.int .i64 b.st)) (d1 : w.cell? ⟨b2, o2 + 1, none⟩ = some v) (hu : Ints w u a.rd) (hv : Ints w v b.rd) :
    Calls Try.prog 79 #[.pointer (some ⟨b1, o1, none⟩), .pointer (some ⟨b2, o2, none⟩)] w fun e w' => e = .returned (.bool (decide (cmpM a b < 0))) ∧ Ext w w' := by
  obtain ⟨A, ca, rfl, _, _⟩ := hu.form
  obtain ⟨B, cb, rfl, _, _⟩ := hv.form
  have q0 := cellR c0
  have q1 := cellR c1
  have r0 := cellR d0
  have r1 := cellR d1
  obtain ⟨z, hz⟩ : ∃ z, decide (cmpM a b < 0) = z := ⟨_, rfl⟩
  rw [hz]
  have HZ := Lib.hid hz
  clear hz
  by_cases h1 : a.st < b.st
  · have HE : Hid (z = true) := by unfold Hid; rw [← HZ.out, cmpM, if_neg (by omega), if_pos h1]; rfl
    go_enter Try.func79, Try.ntmps79
    go_wp2_with fail
    refine wp_region_ext (by kernel_rfl) (by kernel_rfl) ?_
    repeat (go_big_quiet_step (fail))
    refine wpQuiet_nil ?_
    intro w2 hx2
    go_wp2_with fail
    go_ret
    exact ⟨by rw [HE.out]; rfl, hx2⟩
  · have h1b : decide (a.st < b.st) = false := decide_eq_false h1
    by_cases h2 : a.st = b.st
    · have h2b : (a.st == b.st) = true := by simp [h2]
      have CM := fun d os => l01Compare_c (Sort.grow (redrawn w d) os) _ _ a.rd b.rd (hu.ext (below_regrown _ _ _)) (hv.ext (below_regrown _ _ _))
      have HE : Hid (z = decide (cmpL a.rd b.rd < 0)) := by unfold Hid; rw [← HZ.out, cmpM, if_pos h2]
      generalize cmpL a.rd b.rd = y at *
      clear h1 h2
      go_enter Try.func79, Try.ntmps79
      go_wp2_with fail
      refine wp_region_ext (by kernel_rfl) (by kernel_rfl) ?_
      repeat (go_big_quiet_step ((go_at_call 95; exact Calls.extR (CM _ _))))
      refine wpQuiet_nil ?_
      intro w2 hx2
      go_wp2_with fail
      go_ret
      exact ⟨by rw [HE.out]; rfl, hx2⟩
    · have h2b : (a.st == b.st) = false := by simp [h2]
      have HE : Hid (z = false) := by unfold Hid; rw [← HZ.out, cmpM, if_neg h2, if_neg h1]; rfl
      clear h1 h2
      go_enter Try.func79, Try.ntmps79
      go_wp2_with fail
      refine wp_region_ext (by kernel_rfl) (by kernel_rfl) ?_
      repeat (go_big_quiet_step (fail))
      refine wpQuiet_nil ?_
      intro w2 hx2
      go_wp2_with fail
      go_ret
      exact ⟨by rw [HE.out]; rfl, hx2⟩
end Go.Proofs.Ytkbpchdncljlbaa
end
