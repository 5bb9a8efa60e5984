/- Contracts of the reference's order of rules and of its test of a machine with several tapes. No condition.
Contract of the reference's test of a machine with several tapes. No condition.
The append of one list of numbers to another, by its run. No condition. -/
import Derived.Test.YtfghojbbofobeaaGreatQ15
import Derived.Test.YtfghojbbofobeaaGreatQ11
import Derived.Test.YtfghojbbofobeaaGreatQ03
import Derived.Maps.AppendAt
import Derived.Laws.AppendOwnNone
section
set_option linter.unusedVariables false
set_option linter.unusedSimpArgs false
namespace Go.Proofs.YtfghojbbofobeaaGreat
open Go Go.RowKit Go.Proofs
set_option maxHeartbeats 400000
set_option maxRecDepth 20000 in
set_option maxHeartbeats 1000000 in
theorem l06Before_c (b1 o1 b2 o2 : Nat) (a b : MRuleD) (u v : Value) (w : World) (c0 : w.cell? ⟨b1, o1, none⟩ = some (.int .i64 a.st)) (c1 : w.cell? ⟨b1, o1 + 1, none⟩ = some u) (d0 : w.cell? ⟨b2, o2, none⟩ = some (.int .i64 b.st)) (d1 : w.cell? ⟨b2, o2 + 1, none⟩ = some v) (hu : Ints w u a.rd) (hv : Ints w v b.rd) :
    Calls Tryz.prog 45 #[.pointer (some ⟨b1, o1, none⟩), .pointer (some ⟨b2, o2, none⟩)] w fun e w' => e = .returned (.bool (decide (cmpM a b < 0))) ∧ Ext w w' := by
  obtain ⟨A, ca, rfl, _, _⟩ := hu.form
  obtain ⟨B, cb, rfl, _, _⟩ := hv.form
  have q0 := cellR c0
  have q1 := cellR c1
  have r0 := cellR d0
  have r1 := cellR d1
  obtain ⟨z, hz⟩ : ∃ z, decide (cmpM a b < 0) = z := ⟨_, rfl⟩
  rw [hz]
  have HZ := Lib.hid hz
  clear hz
  by_cases h1 : a.st < b.st
  · have HE : Hid (z = true) := by unfold Hid; rw [← HZ.out, cmpM, if_neg (by omega), if_pos h1]; rfl
    go_enter Tryz.func45, Tryz.ntmps45
    go_wp2_with fail
    refine wp_region_ext (by kernel_rfl) (by kernel_rfl) ?_
    repeat (go_big_quiet_step (fail))
    refine wpQuiet_nil ?_
    intro w2 hx2
    go_wp2_with fail
    go_ret
    exact ⟨by rw [HE.out]; rfl, hx2⟩
  · have h1b : decide (a.st < b.st) = false := decide_eq_false h1
    by_cases h2 : a.st = b.st
    · have h2b : (a.st == b.st) = true := by simp [h2]
      have CM := fun d os => l01Compare_c (Sort.grow (redrawn w d) os) _ _ a.rd b.rd (hu.ext (below_regrown _ _ _)) (hv.ext (below_regrown _ _ _))
      have HE : Hid (z = decide (cmpL a.rd b.rd < 0)) := by unfold Hid; rw [← HZ.out, cmpM, if_pos h2]
      generalize cmpL a.rd b.rd = y at *
      clear h1 h2
      go_enter Tryz.func45, Tryz.ntmps45
      go_wp2_with fail
      refine wp_region_ext (by kernel_rfl) (by kernel_rfl) ?_
      repeat (go_big_quiet_step ((go_at_call 77; exact Calls.extR (CM _ _))))
      refine wpQuiet_nil ?_
      intro w2 hx2
      go_wp2_with fail
      go_ret
      exact ⟨by rw [HE.out]; rfl, hx2⟩
    · have h2b : (a.st == b.st) = false := by simp [h2]
      have HE : Hid (z = false) := by unfold Hid; rw [← HZ.out, cmpM, if_neg h2, if_neg h1]; rfl
      clear h1 h2
      go_enter Tryz.func45, Tryz.ntmps45
      go_wp2_with fail
      refine wp_region_ext (by kernel_rfl) (by kernel_rfl) ?_
      repeat (go_big_quiet_step (fail))
      refine wpQuiet_nil ?_
      intro w2 hx2
      go_wp2_with fail
      go_ret
      exact ⟨by rw [HE.out]; rfl, hx2⟩
end Go.Proofs.YtfghojbbofobeaaGreat
end
section
set_option linter.unusedVariables false
set_option linter.unusedSimpArgs false
namespace Go.Proofs.YtfghojbbofobeaaGreat
open Go Go.RowKit Go.Proofs
set_option maxHeartbeats 400000
set_option maxRecDepth 20000 in
set_option maxHeartbeats 4000000 in
theorem l06Is_c (bm : Nat) (m : MultiD) (rv : Value) (w : World) (hb : Blk w bm 35 #[.int .i64 m.tp, .int .i64 m.sy, .int .i64 m.st, rv]) (hr : MRules w rv m.rules) :
    Calls Tryz.prog 19 #[.pointer (some ⟨bm, 0, none⟩)] w fun e w' => e = .returned (.bool (multiOk m)) ∧ Ext w w' := by
  obtain ⟨A, c, rfl, hc1, hc2⟩ := hr.form
  have m0 := hb.cell 0
  have m1 := hb.cell 1
  have m2 := hb.cell 2
  have m3 := hb.cell 3
  simp only [List.getElem?_toArray, List.getElem?_cons_zero, List.getElem?_cons_succ] at m0 m1 m2 m3
  obtain ⟨K, hK⟩ : ∃ K, multiOk m = K := ⟨_, rfl⟩
  rw [hK]
  have HK := Lib.hid hK
  clear hK
  have L1 := fun w => l00In_c m.tp 2 3 w
  have L2 := fun w => l00In_c m.sy 2 3 w
  have L3 := fun w => l00In_c m.st 1 16 w
  go_enter Tryz.func19, Tryz.ntmps19
  go_wp2_with fail
  refine (L1 w).mono ?_
  rintro e _ ⟨rfl, rfl⟩
  cases h1 : inB m.tp 2 3 with
  | false =>
    have HE : Hid (K = false) := by unfold Hid; rw [← HK.out, multiOk, h1]; simp
    clear h1
    go_wp2_with fail
    go_ret
    exact ⟨by rw [HE.out]; rfl, Ext.refl _⟩
  | true =>
    have H1 := Lib.hid h1
    clear h1
    go_wp2_with fail
    refine (L2 _).mono ?_
    rintro e _ ⟨rfl, rfl⟩
    cases h2 : inB m.sy 2 3 with
    | false =>
      have HE : Hid (K = false) := by unfold Hid; rw [← HK.out, multiOk, h2]; simp
      clear h2
      go_wp2_with fail
      go_ret
      exact ⟨by rw [HE.out]; rfl, Ext.refl _⟩
    | true =>
      have H2 := Lib.hid h2
      clear h2
      go_wp2_with fail
      refine (L3 _).mono ?_
      rintro e _ ⟨rfl, rfl⟩
      cases h3 : inB m.st 1 16 with
      | false =>
        have HE : Hid (K = false) := by unfold Hid; rw [← HK.out, multiOk, h3]; simp
        clear h3
        go_wp2_with fail
        go_ret
        exact ⟨by rw [HE.out]; rfl, Ext.refl _⟩
      | true =>
        have H3 := Lib.hid h3
        clear h3
        by_cases h4 : m.rules.length ≤ 60
        · have i4 : ¬ (60 : Int) < (m.rules.length : Int) := by omega
          obtain ⟨t1, t2⟩ := inB_iff.1 H1.out
          obtain ⟨s1, s2⟩ := inB_iff.1 H2.out
          obtain ⟨q1, q2⟩ := inB_iff.1 H3.out
          have hw1 : IntKind.i64.wrap (m.st - 1) = m.st - 1 := IntWalk.i64_in _ (by omega)
          have hw2 : IntKind.i64.wrap (m.sy - 1) = m.sy - 1 := IntWalk.i64_in _ (by omega)
          clear L1 L2 L3
          go_wp2_with fail
          go_loopw [3] (fun i wr => ∃ k : Nat, k ≤ m.rules.length ∧ i = .int .i64 (k : Int) ∧ Ext w wr ∧ Hid (∀ j, j < k → mstepOk m j = true)) (fun i _ => m.rules.length - (intOf i).toNat)
          case atStart => exact ⟨0, Nat.zero_le _, rfl, Ext.refl _, Lib.hid fun j hj => by omega⟩
          case round =>
            obtain ⟨k, hk, rfl, hx, HOK⟩ := hrel
            have e0 := hx.cell m0
            have e1 := hx.cell m1
            have e2 := hx.cell m2
            have e3 := hx.cell m3
            by_cases hlt : k < m.rules.length
            · have hrr := hr.ext hx
              obtain ⟨b, off, vr, vw, vm, rfl, c0, c1, c2, c3, c4, j1, j2, j3⟩ := hrr.at hlt
              have hgd : m.rules.getD k mr0 = m.rules[k] := by rw [List.getD_eq_getElem?_getD, List.getElem?_eq_getElem hlt]; rfl
              have HBF : Hid (∀ (hp : 0 < k) (X : World), Ext wr X → Calls Tryz.prog 45 #[.pointer (some ⟨b, off + (k - 1) * 5, none⟩), .pointer (some ⟨b, off + k * 5, none⟩)] X fun e w' => e = .returned (.bool (decide (cmpM (m.rules.getD (k - 1) mr0) (m.rules.getD k mr0) < 0))) ∧ Ext X w') := Lib.hid fun hp X hX => by
                have hp1 : k - 1 < m.rules.length := by omega
                obtain ⟨b', off', vr', vw', vm', e', d0, d1, d2, d3, d4, k1, k2, k3⟩ := (hrr.ext hX).at hp1
                cases e'
                have hgp : m.rules.getD (k - 1) mr0 = m.rules[k - 1] := by rw [List.getD_eq_getElem?_getD, List.getElem?_eq_getElem hp1]; rfl
                rw [hgd, hgp]
                exact l06Before_c b _ b _ _ _ _ _ X d0 d1 (hX.cell c0) (hX.cell c1) k1 (j1.ext hX)
              have HMS : Hid (mstepOk m k = (mruleOk m (m.rules.getD k mr0) && (decide (k = 0) || decide (cmpM (m.rules.getD (k - 1) mr0) (m.rules.getD k mr0) < 0)))) := rfl
              obtain ⟨r, hrk⟩ : ∃ r, m.rules[k] = r := ⟨_, rfl⟩
              rw [hgd] at HBF HMS
              rw [hrk] at c0 c4 j1 j2 j3 HBF HMS
              clear hgd hrk
              obtain ⟨A1, k1, rfl, _, _⟩ := j1.form
              obtain ⟨A2, k2, rfl, _, _⟩ := j2.form
              obtain ⟨A3, k3, rfl, _, _⟩ := j3.form
              have I1 := fun X => l00In_c r.st 0 (m.st - 1) X
              have I2 := fun X => l00In_c r.nx 0 (m.st - 1) X
              have R1 := fun X (hX : Ext wr X) => l06Row_c _ r.rd m.tp 0 (m.sy - 1) X (j1.ext hX)
              have R2 := fun X (hX : Ext wr X) => l06Row_c _ r.wr m.tp 0 (m.sy - 1) X (j2.ext hX)
              have R3 := fun X (hX : Ext wr X) => l06Row_c _ r.mv m.tp (-1) 1 X (j3.ext hX)
              have HRO : Hid (mruleOk m r = (inB r.st 0 (m.st - 1) && inB r.nx 0 (m.st - 1) && ((decide ((r.rd.length : Int) = m.tp) && r.rd.all fun z => inB z 0 (m.sy - 1)) && (decide ((r.wr.length : Int) = m.tp) && r.wr.all fun z => inB z 0 (m.sy - 1)) && (decide ((r.mv.length : Int) = m.tp) && r.mv.all fun z => inB z (-1) 1)))) := by
                unfold Hid mruleOk allIn
                simp only [Bool.and_assoc, Bool.and_left_comm]
              generalize inB r.st 0 (m.st - 1) = y1 at *
              generalize inB r.nx 0 (m.st - 1) = y2 at *
              generalize (decide ((r.rd.length : Int) = m.tp) && r.rd.all fun z => inB z 0 (m.sy - 1)) = z1 at *
              generalize (decide ((r.wr.length : Int) = m.tp) && r.wr.all fun z => inB z 0 (m.sy - 1)) = z2 at *
              generalize (decide ((r.mv.length : Int) = m.tp) && r.mv.all fun z => inB z (-1) 1) = z3 at *
              have HNO : Hid (mruleOk m r = false → K = false) := Lib.hid fun h => by rw [← HK.out]; exact multi_no hlt (by rw [HMS.out, h]; rfl)
              have g0 := cellR e0
              have g1 := cellR e1
              have g2 := cellR e2
              have f0 := cellR c0
              have f4 := cellR c4
              have E0 := Lib.hid e0
              have E1 := Lib.hid e1
              have E3 := Lib.hid e3
              have C0 := Lib.hid c0
              have C1 := Lib.hid c1
              have C2 := Lib.hid c2
              have C3 := Lib.hid c3
              have R1H := Lib.hid R1
              have R2H := Lib.hid R2
              have R3H := Lib.hid R3
              clear hr hrr hb j1 j2 j3 m0 m1 m2 m3 e0 e1 e2 c0 c1 c2 c3 c4 R1 R2 R3
              generalize r.rd.length = l1 at *
              generalize r.wr.length = l2 at *
              generalize r.mv.length = l3 at *
              cases y1 with
              | false =>
                have HE : Hid (K = false) := Lib.hid (HNO.out (by rw [HRO.out]; simp))
                go_wp2_with fail
                refine wp_region_ext (by kernel_rfl) (by kernel_rfl) ?_
                repeat (go_big_quiet_step ((go_at_call 43; first | with_reducible exact Calls.sameR (I1 _) | with_reducible exact Calls.sameR (I2 _))))
                refine wpQuiet_nil ?_
                intro w2 hxw2
                go_wp2_with fail
                go_ret
                exact ⟨by rw [HE.out]; rfl, hx.trans hxw2⟩
              | true =>
                cases y2 with
                | false =>
                  have HE : Hid (K = false) := Lib.hid (HNO.out (by rw [HRO.out]; simp))
                  go_wp2_with fail
                  refine wp_region_ext (by kernel_rfl) (by kernel_rfl) ?_
                  repeat (go_big_quiet_step ((go_at_call 43; first | with_reducible exact Calls.sameR (I1 _) | with_reducible exact Calls.sameR (I2 _))))
                  refine wpQuiet_nil ?_
                  intro w2 hxw2
                  go_wp2_with fail
                  go_ret
                  exact ⟨by rw [HE.out]; rfl, hx.trans hxw2⟩
                | true =>
                  go_wp2_with fail
                  refine wp_region_ext (by kernel_rfl) (by kernel_rfl) ?_
                  repeat (go_big_quiet_step ((go_at_call 43; first | with_reducible exact Calls.sameR (I1 _) | with_reducible exact Calls.sameR (I2 _))))
                  refine wpQuiet_nil ?_
                  intro w2 hxw2
                  have a0 := hxw2.cell E0.out
                  have a1 := hxw2.cell E1.out
                  have b1 := hxw2.cell C1.out
                  have b2 := hxw2.cell C2.out
                  have b3 := hxw2.cell C3.out
                  have R1w := fun d os => R1H.out (Sort.grow (redrawn w2 d) os) (hxw2.trans (below_regrown _ _ _))
                  have R2w := fun d os => R2H.out (Sort.grow (redrawn w2 d) os) (hxw2.trans (below_regrown _ _ _))
                  have R3w := fun d os => R3H.out (Sort.grow (redrawn w2 d) os) (hxw2.trans (below_regrown _ _ _))
                  clear g0 g1 g2 f0 f4 I1 I2 e3
                  have g0 := cellR a0
                  have g1 := cellR a1
                  have f1 := cellR b1
                  have f2 := cellR b2
                  have f3 := cellR b3
                  cases z1 with
                  | false =>
                    have HE : Hid (K = false) := Lib.hid (HNO.out (by rw [HRO.out]; simp))
                    go_wp2_with fail
                    refine wp_region_ext (by kernel_rfl) (by kernel_rfl) ?_
                    repeat (go_big_quiet_step ((go_at_call 44; first | with_reducible exact Calls.sameR (R1w _ _) | with_reducible exact Calls.sameR (R2w _ _) | with_reducible exact Calls.sameR (R3w _ _))))
                    refine wpQuiet_nil ?_
                    intro w3 hxw3
                    go_wp2_with fail
                    go_ret
                    exact ⟨by rw [HE.out]; rfl, (hx.trans hxw2).trans hxw3⟩
                  | true =>
                    cases z2 with
                    | false =>
                      have HE : Hid (K = false) := Lib.hid (HNO.out (by rw [HRO.out]; simp))
                      go_wp2_with fail
                      refine wp_region_ext (by kernel_rfl) (by kernel_rfl) ?_
                      repeat (go_big_quiet_step ((go_at_call 44; first | with_reducible exact Calls.sameR (R1w _ _) | with_reducible exact Calls.sameR (R2w _ _) | with_reducible exact Calls.sameR (R3w _ _))))
                      refine wpQuiet_nil ?_
                      intro w3 hxw3
                      go_wp2_with fail
                      go_ret
                      exact ⟨by rw [HE.out]; rfl, (hx.trans hxw2).trans hxw3⟩
                    | true =>
                      cases z3 with
                      | false =>
                        have HE : Hid (K = false) := Lib.hid (HNO.out (by rw [HRO.out]; simp))
                        go_wp2_with fail
                        refine wp_region_ext (by kernel_rfl) (by kernel_rfl) ?_
                        repeat (go_big_quiet_step ((go_at_call 44; first | with_reducible exact Calls.sameR (R1w _ _) | with_reducible exact Calls.sameR (R2w _ _) | with_reducible exact Calls.sameR (R3w _ _))))
                        refine wpQuiet_nil ?_
                        intro w3 hxw3
                        go_wp2_with fail
                        go_ret
                        exact ⟨by rw [HE.out]; rfl, (hx.trans hxw2).trans hxw3⟩
                      | true =>
                        go_wp2_with fail
                        refine wp_region_ext (by kernel_rfl) (by kernel_rfl) ?_
                        repeat (go_big_quiet_step ((go_at_call 44; first | with_reducible exact Calls.sameR (R1w _ _) | with_reducible exact Calls.sameR (R2w _ _) | with_reducible exact Calls.sameR (R3w _ _))))
                        refine wpQuiet_nil ?_
                        intro w3 hxw3
                        have HRT : Hid (mruleOk m r = true) := Lib.hid (by rw [HRO.out]; rfl)
                        have n3 := (hxw2.trans hxw3).cell E3.out
                        clear g0 g1 f1 f2 f3 R1w R2w R3w HNO HRO a0 a1 b1 b2 b3
                        have hX3 := hxw2.trans hxw3
                        have hXA := hx.trans hX3
                        by_cases h0 : k = 0
                        · subst h0
                          have HS : Hid (∀ j, j < 0 + 1 → mstepOk m j = true) := Lib.hid fun j hj => by
                            obtain rfl : j = 0 := by omega
                            rw [HMS.out, HRT.out]
                            rfl
                          clear hx hxw2 hxw3 HBF
                          go_wp2_with fail
                          go_roundw
                          case rel => exact ⟨0 + 1, by omega, by go_num, hXA, HS.out⟩
                          case measure => simp [intOf]; omega
                        · obtain ⟨j, rfl⟩ : ∃ j, k = j + 1 := ⟨k - 1, by omega⟩
                          have BF := HBF.out (by omega) w3 hX3
                          simp only [Nat.add_sub_cancel] at BF HMS
                          generalize cmpM (m.rules.getD j mr0) r = y at *
                          have hk1 : (((j + 1 : Nat) : Int) - 1) = (j : Int) := by omega
                          have hk2 : IntKind.i64.wrap (((j + 1 : Nat) : Int) - 1) = (j : Int) := by rw [hk1]; exact IntWalk.i64_in _ (by omega)
                          have hk3 : IntKind.i64.wrap (j : Int) = (j : Int) := IntWalk.i64_in _ (by omega)
                          clear HBF hx hxw2 hxw3
                          cases hy : decide (y < 0) with
                          | false =>
                            have HE : Hid (K = false) := by unfold Hid; rw [← HK.out]; exact multi_no hlt (by rw [HMS.out, hy]; simp)
                            rw [hy] at BF
                            clear hy
                            go_wp2_with fail
                            refine BF.mono ?_
                            rintro e w4 ⟨rfl, hx4⟩
                            go_wp2_with fail
                            go_ret
                            exact ⟨by rw [HE.out]; rfl, hXA.trans hx4⟩
                          | true =>
                            have HS : Hid (∀ i, i < j + 1 + 1 → mstepOk m i = true) := Lib.hid fun i hi => by
                              by_cases e : i = j + 1
                              · subst e
                                rw [HMS.out, HRT.out, hy]
                                simp
                              · exact HOK.out i (by omega)
                            rw [hy] at BF
                            clear hy
                            go_wp2_with fail
                            refine BF.mono ?_
                            rintro e w4 ⟨rfl, hx4⟩
                            go_wp2_with fail
                            go_roundw
                            case rel => exact ⟨j + 1 + 1, by omega, by go_num, hXA.trans hx4, HS.out⟩
                            case measure => simp [intOf]; omega
            · obtain rfl : k = m.rules.length := by omega
              have HE : Hid (K = true) := by
                unfold Hid
                rw [← HK.out]
                simp only [multiOk, H1.out, H2.out, H3.out, Bool.and_eq_true, decide_eq_true_eq, List.all_eq_true, List.mem_range]
                exact ⟨⟨⟨⟨trivial, trivial⟩, trivial⟩, h4⟩, fun j hj => HOK.out j hj⟩
              go_wp2_with fail
              go_ret
              exact ⟨by rw [HE.out]; rfl, hx⟩
        · have i4 : (60 : Int) < (m.rules.length : Int) := by omega
          have HE : Hid (K = false) := by unfold Hid; rw [← HK.out, multiOk, decide_eq_false h4]; simp
          go_wp2_with fail
          go_ret
          exact ⟨by rw [HE.out]; rfl, Ext.refl _⟩
end Go.Proofs.YtfghojbbofobeaaGreat
end
section
set_option linter.unusedVariables false
set_option linter.unusedSimpArgs false
namespace Go.Proofs.YtfghojbbofobeaaGreat
open Go Go.RowKit Go.Proofs
set_option maxHeartbeats 400000
def FlatS (v : Value) : Prop := v = .slice none 0 0 ∨ ∃ b off n c, v = .slice (some ⟨b, off, none⟩) n c
theorem OwnInts.flatS {base : Nat} {w : World} {v : Value} {zs : List Int} (h : OwnInts base w v zs) : FlatS v := by
  rcases h.2 with ⟨rfl, _⟩ | ⟨g, cap, cur, rfl, _⟩
  · exact .inl rfl
  · exact .inr ⟨g, 0, _, cap, rfl⟩
theorem run_append_ints (w : World) (base : Nat) (v u : Value) (xs news : List Int) (hown : OwnInts base w v xs) (hu : Ints w u news) (hf : FlatS u) (hl : xs.length + news.length ≤ 4194304) (hbase : base ≤ w.heap.size) :
    ∃ v' w', (Builtin.append_ #[46, 46] 46 #[v, u]).run Tryz.prog w = .ok v' w' ∧ OwnInts base w' v' (xs ++ news) ∧ w.grownBy w' v.ownBlock := by
  obtain ⟨i0, hi, hz0, hz1, hz2⟩ := info_parts intInfo
  obtain ⟨A, c, rfl, _, _⟩ := id hu.form
  rcases hf with hf | ⟨b, off, n, c', hf⟩
  · injection hf with e1 e2 e3
    subst e1 e3
    have hz : news = [] := List.length_eq_zero_iff.1 e2
    subst hz
    exact ⟨v, w, run_append_owned_none (P := Tryz.prog) (w := w) base 46 46 2 i0 1 Tryz.underlying46 hi v xs.length (ivs xs) hown, by simpa using hown, ⟨rfl, rfl, rfl, Nat.le_refl _, fun _ _ _ => rfl⟩⟩
  · injection hf with e1 e2 e3
    subst e1 e3
    have hc : ∀ j y, (ivs news)[j]? = some y → w.cell? ((⟨b, off, none⟩ : Addr).add j) = some y := by
      intro j y hj
      obtain ⟨hl, _⟩ := List.getElem?_eq_some_iff.1 hj
      rw [ivs_length] at hl
      obtain ⟨b', off', e', hc⟩ := hu.at hl
      cases e'
      have := hc j hl
      have e : y = .int .i64 news[j] := by
        have := ivs_get news j hl
        rw [hj] at this
        injection this
      by_cases hj0 : j = 0
      · subst hj0
        rw [e]
        first | (simp [Addr.add]; done) | (simpa [Addr.add] using hc 0 hl)
      · rw [e]
        first | (simp [Addr.add, hj0]; done) | (simpa [Addr.add, hj0] using this)
    have h1 : ∀ u ∈ ivs news, u.oneCell' = true := by
      intro u hu
      obtain ⟨z, _, rfl⟩ := List.mem_map.1 hu
      rfl
    obtain ⟨v', w', hr, h2, h3, _, _⟩ := run_append_own_at (P := Tryz.prog) w base 46 46 2 i0 (.int .i64 0) 1 8 Tryz.underlying46 hi hz0 hz1 hz2 rfl (by decide) v xs.length (ivs xs) hown ⟨b, off, none⟩ news.length c (ivs news) (by simp) hc h1 (by unfold maxLen; omega) (by omega) hbase
    exact ⟨v', w', hr, by unfold OwnInts; rw [ivs_append, List.length_append]; exact h2, h3⟩
end Go.Proofs.YtfghojbbofobeaaGreat
end
