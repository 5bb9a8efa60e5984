/- Contract of the reference's test of a machine with several tapes. No condition.
Contract of the reference's decoding of a configuration of the machine with one tape for several.
Contracts of the laws' sizes of machines with several tapes. -/
import Derived.Test.YtfghojbbofobeaaP30
import Derived.Test.YtfghojbbofobeaaP08
import Derived.Test.YtfghojbbofobeaaP03
section
set_option linter.unusedVariables false
set_option linter.unusedSimpArgs false
namespace Go.Proofs.Ytfghojbbofobeaa
open Go Go.RowKit Go.Proofs
set_option maxHeartbeats 400000
set_option maxRecDepth 20000 in
set_option maxHeartbeats 4000000 in
theorem l06Is_c (bm : Nat) (m : MultiD) (rv : Value) (w : World) (hb : Blk w bm 37 #[.int .i64 m.tp, .int .i64 m.sy, .int .i64 m.st, rv]) (hr : MRules w rv m.rules) :
    Calls Try.prog 19 #[.pointer (some ⟨bm, 0, none⟩)] w fun e w' => e = .returned (.bool (multiOk m)) ∧ Ext w w' := by
  obtain ⟨A, c, rfl, hc1, hc2⟩ := hr.form
  have m0 := hb.cell 0
  have m1 := hb.cell 1
  have m2 := hb.cell 2
  have m3 := hb.cell 3
  simp only [List.getElem?_toArray, List.getElem?_cons_zero, List.getElem?_cons_succ] at m0 m1 m2 m3
  obtain ⟨K, hK⟩ : ∃ K, multiOk m = K := ⟨_, rfl⟩
  rw [hK]
  have HK := Lib.hid hK
  clear hK
  have L1 := fun w => l00In_c m.tp 2 3 w
  have L2 := fun w => l00In_c m.sy 2 3 w
  have L3 := fun w => l00In_c m.st 1 16 w
  go_enter Try.func19, Try.ntmps19
  go_wp2_with fail
  refine (L1 w).mono ?_
  rintro e _ ⟨rfl, rfl⟩
  cases h1 : inB m.tp 2 3 with
  | false =>
    have HE : Hid (K = false) := by unfold Hid; rw [← HK.out, multiOk, h1]; simp
    clear h1
    go_wp2_with fail
    go_ret
    exact ⟨by rw [HE.out]; rfl, Ext.refl _⟩
  | true =>
    have H1 := Lib.hid h1
    clear h1
    go_wp2_with fail
    refine (L2 _).mono ?_
    rintro e _ ⟨rfl, rfl⟩
    cases h2 : inB m.sy 2 3 with
    | false =>
      have HE : Hid (K = false) := by unfold Hid; rw [← HK.out, multiOk, h2]; simp
      clear h2
      go_wp2_with fail
      go_ret
      exact ⟨by rw [HE.out]; rfl, Ext.refl _⟩
    | true =>
      have H2 := Lib.hid h2
      clear h2
      go_wp2_with fail
      refine (L3 _).mono ?_
      rintro e _ ⟨rfl, rfl⟩
      cases h3 : inB m.st 1 16 with
      | false =>
        have HE : Hid (K = false) := by unfold Hid; rw [← HK.out, multiOk, h3]; simp
        clear h3
        go_wp2_with fail
        go_ret
        exact ⟨by rw [HE.out]; rfl, Ext.refl _⟩
      | true =>
        have H3 := Lib.hid h3
        clear h3
        by_cases h4 : m.rules.length ≤ 60
        · have i4 : ¬ (60 : Int) < (m.rules.length : Int) := by omega
          obtain ⟨t1, t2⟩ := inB_iff.1 H1.out
          obtain ⟨s1, s2⟩ := inB_iff.1 H2.out
          obtain ⟨q1, q2⟩ := inB_iff.1 H3.out
          have hw1 : IntKind.i64.wrap (m.st - 1) = m.st - 1 := IntWalk.i64_in _ (by omega)
          have hw2 : IntKind.i64.wrap (m.sy - 1) = m.sy - 1 := IntWalk.i64_in _ (by omega)
          clear L1 L2 L3
          go_wp2_with fail
          go_loopw [3] (fun i wr => ∃ k : Nat, k ≤ m.rules.length ∧ i = .int .i64 (k : Int) ∧ Ext w wr ∧ Hid (∀ j, j < k → mstepOk m j = true)) (fun i _ => m.rules.length - (intOf i).toNat)
          case atStart => exact ⟨0, Nat.zero_le _, rfl, Ext.refl _, Lib.hid fun j hj => by omega⟩
          case round =>
            obtain ⟨k, hk, rfl, hx, HOK⟩ := hrel
            have e0 := hx.cell m0
            have e1 := hx.cell m1
            have e2 := hx.cell m2
            have e3 := hx.cell m3
            by_cases hlt : k < m.rules.length
            · have hrr := hr.ext hx
              obtain ⟨b, off, vr, vw, vm, rfl, c0, c1, c2, c3, c4, j1, j2, j3⟩ := hrr.at hlt
              have hgd : m.rules.getD k mr0 = m.rules[k] := by rw [List.getD_eq_getElem?_getD, List.getElem?_eq_getElem hlt]; rfl
              have HBF : Hid (∀ (hp : 0 < k) (X : World), Ext wr X → Calls Try.prog 38 #[.pointer (some ⟨b, off + (k - 1) * 5, none⟩), .pointer (some ⟨b, off + k * 5, none⟩)] X fun e w' => e = .returned (.bool (decide (cmpM (m.rules.getD (k - 1) mr0) (m.rules.getD k mr0) < 0))) ∧ Ext X w') := Lib.hid fun hp X hX => by
                have hp1 : k - 1 < m.rules.length := by omega
                obtain ⟨b', off', vr', vw', vm', e', d0, d1, d2, d3, d4, k1, k2, k3⟩ := (hrr.ext hX).at hp1
                cases e'
                have hgp : m.rules.getD (k - 1) mr0 = m.rules[k - 1] := by rw [List.getD_eq_getElem?_getD, List.getElem?_eq_getElem hp1]; rfl
                rw [hgd, hgp]
                exact l06Before_c b _ b _ _ _ _ _ X d0 d1 (hX.cell c0) (hX.cell c1) k1 (j1.ext hX)
              have HMS : Hid (mstepOk m k = (mruleOk m (m.rules.getD k mr0) && (decide (k = 0) || decide (cmpM (m.rules.getD (k - 1) mr0) (m.rules.getD k mr0) < 0)))) := rfl
              obtain ⟨r, hrk⟩ : ∃ r, m.rules[k] = r := ⟨_, rfl⟩
              rw [hgd] at HBF HMS
              rw [hrk] at c0 c4 j1 j2 j3 HBF HMS
              clear hgd hrk
              obtain ⟨A1, k1, rfl, _, _⟩ := j1.form
              obtain ⟨A2, k2, rfl, _, _⟩ := j2.form
              obtain ⟨A3, k3, rfl, _, _⟩ := j3.form
              have I1 := fun X => l00In_c r.st 0 (m.st - 1) X
              have I2 := fun X => l00In_c r.nx 0 (m.st - 1) X
              have R1 := fun X (hX : Ext wr X) => l06Row_c _ r.rd m.tp 0 (m.sy - 1) X (j1.ext hX)
              have R2 := fun X (hX : Ext wr X) => l06Row_c _ r.wr m.tp 0 (m.sy - 1) X (j2.ext hX)
              have R3 := fun X (hX : Ext wr X) => l06Row_c _ r.mv m.tp (-1) 1 X (j3.ext hX)
              have HRO : Hid (mruleOk m r = (inB r.st 0 (m.st - 1) && inB r.nx 0 (m.st - 1) && ((decide ((r.rd.length : Int) = m.tp) && r.rd.all fun z => inB z 0 (m.sy - 1)) && (decide ((r.wr.length : Int) = m.tp) && r.wr.all fun z => inB z 0 (m.sy - 1)) && (decide ((r.mv.length : Int) = m.tp) && r.mv.all fun z => inB z (-1) 1)))) := by
                unfold Hid mruleOk allIn
                simp only [Bool.and_assoc, Bool.and_left_comm]
              generalize inB r.st 0 (m.st - 1) = y1 at *
              generalize inB r.nx 0 (m.st - 1) = y2 at *
              generalize (decide ((r.rd.length : Int) = m.tp) && r.rd.all fun z => inB z 0 (m.sy - 1)) = z1 at *
              generalize (decide ((r.wr.length : Int) = m.tp) && r.wr.all fun z => inB z 0 (m.sy - 1)) = z2 at *
              generalize (decide ((r.mv.length : Int) = m.tp) && r.mv.all fun z => inB z (-1) 1) = z3 at *
              have HNO : Hid (mruleOk m r = false → K = false) := Lib.hid fun h => by rw [← HK.out]; exact multi_no hlt (by rw [HMS.out, h]; rfl)
              have g0 := cellR e0
              have g1 := cellR e1
              have g2 := cellR e2
              have f0 := cellR c0
              have f4 := cellR c4
              have E0 := Lib.hid e0
              have E1 := Lib.hid e1
              have E3 := Lib.hid e3
              have C0 := Lib.hid c0
              have C1 := Lib.hid c1
              have C2 := Lib.hid c2
              have C3 := Lib.hid c3
              have R1H := Lib.hid R1
              have R2H := Lib.hid R2
              have R3H := Lib.hid R3
              clear hr hrr hb j1 j2 j3 m0 m1 m2 m3 e0 e1 e2 c0 c1 c2 c3 c4 R1 R2 R3
              generalize r.rd.length = l1 at *
              generalize r.wr.length = l2 at *
              generalize r.mv.length = l3 at *
              cases y1 with
              | false =>
                have HE : Hid (K = false) := Lib.hid (HNO.out (by rw [HRO.out]; simp))
                go_wp2_with fail
                refine wp_region_ext (by kernel_rfl) (by kernel_rfl) ?_
                repeat (go_big_quiet_step ((go_at_call 36; first | with_reducible exact Calls.sameR (I1 _) | with_reducible exact Calls.sameR (I2 _))))
                refine wpQuiet_nil ?_
                intro w2 hxw2
                go_wp2_with fail
                go_ret
                exact ⟨by rw [HE.out]; rfl, hx.trans hxw2⟩
              | true =>
                cases y2 with
                | false =>
                  have HE : Hid (K = false) := Lib.hid (HNO.out (by rw [HRO.out]; simp))
                  go_wp2_with fail
                  refine wp_region_ext (by kernel_rfl) (by kernel_rfl) ?_
                  repeat (go_big_quiet_step ((go_at_call 36; first | with_reducible exact Calls.sameR (I1 _) | with_reducible exact Calls.sameR (I2 _))))
                  refine wpQuiet_nil ?_
                  intro w2 hxw2
                  go_wp2_with fail
                  go_ret
                  exact ⟨by rw [HE.out]; rfl, hx.trans hxw2⟩
                | true =>
                  go_wp2_with fail
                  refine wp_region_ext (by kernel_rfl) (by kernel_rfl) ?_
                  repeat (go_big_quiet_step ((go_at_call 36; first | with_reducible exact Calls.sameR (I1 _) | with_reducible exact Calls.sameR (I2 _))))
                  refine wpQuiet_nil ?_
                  intro w2 hxw2
                  have a0 := hxw2.cell E0.out
                  have a1 := hxw2.cell E1.out
                  have b1 := hxw2.cell C1.out
                  have b2 := hxw2.cell C2.out
                  have b3 := hxw2.cell C3.out
                  have R1w := fun d os => R1H.out (Sort.grow (redrawn w2 d) os) (hxw2.trans (below_regrown _ _ _))
                  have R2w := fun d os => R2H.out (Sort.grow (redrawn w2 d) os) (hxw2.trans (below_regrown _ _ _))
                  have R3w := fun d os => R3H.out (Sort.grow (redrawn w2 d) os) (hxw2.trans (below_regrown _ _ _))
                  clear g0 g1 g2 f0 f4 I1 I2 e3
                  have g0 := cellR a0
                  have g1 := cellR a1
                  have f1 := cellR b1
                  have f2 := cellR b2
                  have f3 := cellR b3
                  cases z1 with
                  | false =>
                    have HE : Hid (K = false) := Lib.hid (HNO.out (by rw [HRO.out]; simp))
                    go_wp2_with fail
                    refine wp_region_ext (by kernel_rfl) (by kernel_rfl) ?_
                    repeat (go_big_quiet_step ((go_at_call 37; first | with_reducible exact Calls.sameR (R1w _ _) | with_reducible exact Calls.sameR (R2w _ _) | with_reducible exact Calls.sameR (R3w _ _))))
                    refine wpQuiet_nil ?_
                    intro w3 hxw3
                    go_wp2_with fail
                    go_ret
                    exact ⟨by rw [HE.out]; rfl, (hx.trans hxw2).trans hxw3⟩
                  | true =>
                    cases z2 with
                    | false =>
                      have HE : Hid (K = false) := Lib.hid (HNO.out (by rw [HRO.out]; simp))
                      go_wp2_with fail
                      refine wp_region_ext (by kernel_rfl) (by kernel_rfl) ?_
                      repeat (go_big_quiet_step ((go_at_call 37; first | with_reducible exact Calls.sameR (R1w _ _) | with_reducible exact Calls.sameR (R2w _ _) | with_reducible exact Calls.sameR (R3w _ _))))
                      refine wpQuiet_nil ?_
                      intro w3 hxw3
                      go_wp2_with fail
                      go_ret
                      exact ⟨by rw [HE.out]; rfl, (hx.trans hxw2).trans hxw3⟩
                    | true =>
                      cases z3 with
                      | false =>
                        have HE : Hid (K = false) := Lib.hid (HNO.out (by rw [HRO.out]; simp))
                        go_wp2_with fail
                        refine wp_region_ext (by kernel_rfl) (by kernel_rfl) ?_
                        repeat (go_big_quiet_step ((go_at_call 37; first | with_reducible exact Calls.sameR (R1w _ _) | with_reducible exact Calls.sameR (R2w _ _) | with_reducible exact Calls.sameR (R3w _ _))))
                        refine wpQuiet_nil ?_
                        intro w3 hxw3
                        go_wp2_with fail
                        go_ret
                        exact ⟨by rw [HE.out]; rfl, (hx.trans hxw2).trans hxw3⟩
                      | true =>
                        go_wp2_with fail
                        refine wp_region_ext (by kernel_rfl) (by kernel_rfl) ?_
                        repeat (go_big_quiet_step ((go_at_call 37; first | with_reducible exact Calls.sameR (R1w _ _) | with_reducible exact Calls.sameR (R2w _ _) | with_reducible exact Calls.sameR (R3w _ _))))
                        refine wpQuiet_nil ?_
                        intro w3 hxw3
                        have HRT : Hid (mruleOk m r = true) := Lib.hid (by rw [HRO.out]; rfl)
                        have n3 := (hxw2.trans hxw3).cell E3.out
                        clear g0 g1 f1 f2 f3 R1w R2w R3w HNO HRO a0 a1 b1 b2 b3
                        have hX3 := hxw2.trans hxw3
                        have hXA := hx.trans hX3
                        by_cases h0 : k = 0
                        · subst h0
                          have HS : Hid (∀ j, j < 0 + 1 → mstepOk m j = true) := Lib.hid fun j hj => by
                            obtain rfl : j = 0 := by omega
                            rw [HMS.out, HRT.out]
                            rfl
                          clear hx hxw2 hxw3 HBF
                          go_wp2_with fail
                          go_roundw
                          case rel => exact ⟨0 + 1, by omega, by go_num, hXA, HS.out⟩
                          case measure => simp [intOf]; omega
                        · obtain ⟨j, rfl⟩ : ∃ j, k = j + 1 := ⟨k - 1, by omega⟩
                          have BF := HBF.out (by omega) w3 hX3
                          simp only [Nat.add_sub_cancel] at BF HMS
                          generalize cmpM (m.rules.getD j mr0) r = y at *
                          have hk1 : (((j + 1 : Nat) : Int) - 1) = (j : Int) := by omega
                          have hk2 : IntKind.i64.wrap (((j + 1 : Nat) : Int) - 1) = (j : Int) := by rw [hk1]; exact IntWalk.i64_in _ (by omega)
                          have hk3 : IntKind.i64.wrap (j : Int) = (j : Int) := IntWalk.i64_in _ (by omega)
                          clear HBF hx hxw2 hxw3
                          cases hy : decide (y < 0) with
                          | false =>
                            have HE : Hid (K = false) := by unfold Hid; rw [← HK.out]; exact multi_no hlt (by rw [HMS.out, hy]; simp)
                            rw [hy] at BF
                            clear hy
                            go_wp2_with fail
                            refine BF.mono ?_
                            rintro e w4 ⟨rfl, hx4⟩
                            go_wp2_with fail
                            go_ret
                            exact ⟨by rw [HE.out]; rfl, hXA.trans hx4⟩
                          | true =>
                            have HS : Hid (∀ i, i < j + 1 + 1 → mstepOk m i = true) := Lib.hid fun i hi => by
                              by_cases e : i = j + 1
                              · subst e
                                rw [HMS.out, HRT.out, hy]
                                simp
                              · exact HOK.out i (by omega)
                            rw [hy] at BF
                            clear hy
                            go_wp2_with fail
                            refine BF.mono ?_
                            rintro e w4 ⟨rfl, hx4⟩
                            go_wp2_with fail
                            go_roundw
                            case rel => exact ⟨j + 1 + 1, by omega, by go_num, hXA.trans hx4, HS.out⟩
                            case measure => simp [intOf]; omega
            · obtain rfl : k = m.rules.length := by omega
              have HE : Hid (K = true) := by
                unfold Hid
                rw [← HK.out]
                simp only [multiOk, H1.out, H2.out, H3.out, Bool.and_eq_true, decide_eq_true_eq, List.all_eq_true, List.mem_range]
                exact ⟨⟨⟨⟨trivial, trivial⟩, trivial⟩, h4⟩, fun j hj => HOK.out j hj⟩
              go_wp2_with fail
              go_ret
              exact ⟨by rw [HE.out]; rfl, hx⟩
        · have i4 : (60 : Int) < (m.rules.length : Int) := by omega
          have HE : Hid (K = false) := by unfold Hid; rw [← HK.out, multiOk, decide_eq_false h4]; simp
          go_wp2_with fail
          go_ret
          exact ⟨by rw [HE.out]; rfl, Ext.refl _⟩
end Go.Proofs.Ytfghojbbofobeaa
end
section
set_option linter.unusedSimpArgs false
set_option linter.unusedVariables false
namespace Go.Proofs.Ytfghojbbofobeaa
open Go Go.RowKit Go.Proofs Go.Maps
set_option maxHeartbeats 400000
theorem DecResS.over {w w0 w1 : World} {r : MConfD × Int} {v : Value} {b : Nat} {cs : Array Value} (hb : w.heap.size ≤ b) (hX0 : Ext w w0) (hX : Ext w0 w1) (h : OwnT w0.heap.size w1 v r.1.tapes) (hB : Blk w1 b 32 cs) (x y : Value) :
    DecResS w r (.returned (.tuple #[.agg #[.int .i64 r.1.q, v], .int .i64 r.2])) ((w1.setCell ⟨b, 0, none⟩ x).setCell ⟨b, 1, none⟩ y) :=
  DecResS.done (q := r.1.q) (k := r.2) hb (hX0.trans hX) h hX0.size hB x y
set_option maxRecDepth 20000 in
set_option maxHeartbeats 4000000 in
theorem specDecodeOneTape_c (mv : Value) (m : MultiD) (c : ConfD) (lv qv : Value) (w : World) (hM : Mult w mv m) (hl : Ints w lv c.l) (hq : Ints w qv c.r) :
    Calls Try.prog 6 #[mv, .agg #[.int .i64 c.q, lv, qv]] w (DecResS w (decAllM m c)) := by
  obtain ⟨rvm, rfl, hR⟩ := hM
  obtain ⟨Am, cm, rfl, _, _⟩ := hR.form
  obtain ⟨Al, cl, rfl, _, _⟩ := hl.form
  obtain ⟨Ar, cr, rfl, _, _⟩ := hq.form
  obtain ⟨g, hg⟩ : ∃ g, w.heap.size = g := ⟨_, rfl⟩
  obtain ⟨W, hW⟩ : ∃ W, W = ((w.alloc (.cells #[.int .i64 m.tp, .int .i64 m.sy, .int .i64 m.st, .slice Am m.rules.length cm] 37)).alloc (.cells #[.int .i64 c.q, .slice Al c.l.length cl, .slice Ar c.r.length cr] 39)).alloc (.cells #[.int .i64 0, .slice none 0 0] 32) := ⟨_, rfl⟩
  have hXW : Ext w W := by rw [hW]; exact ((Ext.alloc _ _).trans (Ext.alloc _ _)).trans (Ext.alloc _ _)
  have bM : Blk W g 37 #[.int .i64 m.tp, .int .i64 m.sy, .int .i64 m.st, .slice Am m.rules.length cm] := by rw [hW]; exact ((Blk.new _ _ _ _ hg).alloc _).alloc _
  have bC : Blk W (g + 1) 39 #[.int .i64 c.q, .slice Al c.l.length cl, .slice Ar c.r.length cr] := by rw [hW]; exact (Blk.new _ _ _ _ (by simp [hg])).alloc _
  have bO : Blk W (g + 1 + 1) 32 #[.int .i64 0, .slice none 0 0] := by rw [hW]; exact Blk.new _ _ _ _ (by simp [hg])
  have hMA : MulAt W g m := ⟨Am, cm, bM, hR.ext hXW⟩
  have d0 := bC.cell 0
  have d1 := bC.cell 1
  have d2 := bC.cell 2
  simp only [List.getElem?_toArray, List.getElem?_cons_zero, List.getElem?_cons_succ] at d0 d1 d2
  have hCP : ConfP W (g + 1) c := ⟨_, _, d0, d1, d2, hl.ext hXW, hq.ext hXW⟩
  obtain ⟨R, hR'⟩ : ∃ R, R = decAllM m c := ⟨_, rfl⟩
  rw [← hR']
  have HR := Lib.hid hR'
  clear hR' d0 d1 d2
  have hb2 : w.heap.size ≤ g + 1 + 1 := by omega
  have IS := l06Is_c g m _ W bM (hR.ext hXW)
  go_enter Try.func6, Try.ntmps6
  go_wp2_with fail
  try rw [← hW]
  try rw [hg]
  clear hW
  refine IS.mono ?_
  rintro e w1 ⟨rfl, hx1⟩
  clear IS
  have hX1 := hXW.trans hx1
  have ob := (bO.ext hx1).cell
  have of_ := (bO.ext hx1).frozen
  cases hm : multiOk m with
  | false =>
    have HE : Hid (R = (⟨0, []⟩, 1)) := by unfold Hid; rw [HR.out]; unfold decAllM; rw [hm]; rfl
    clear hm
    go_wp2
    rw [HE.out]
    exact bodyPost_ret (v := .tuple #[.agg #[.int .i64 0, .slice none 0 0], .int .i64 1]) (by simp [results, Try.results6, go_sem, ob]) rfl (DecResS.fail hb2 hX1 _ _)
  | true =>
    have hf := l13MakeSeveral_c g m w1 (hMA.ext hx1) hm
    have HE : Hid (R = match weaveB m with | none => (⟨0, []⟩, 5) | some s => if confB ⟨2 * m.sy, s.1.length, s.2⟩ c then decOne m (s.1.getD c.q.toNat mp0) c else (⟨0, []⟩, 2)) := by unfold Hid; rw [HR.out]; unfold decAllM; rw [hm]; rfl
    have HM := Lib.hid hm
    clear hm
    go_wp2_with fail
    refine hf.mono ?_
    rintro e w2 ⟨hres, hx2⟩
    clear hf
    have hX2 := hX1.trans hx2
    have bO2 := (bO.ext hx1).ext hx2
    clear ob of_
    have ob := bO2.cell
    have of_ := bO2.frozen
    rcases hres with ⟨hn, bk, rfl⟩ | ⟨s, bk, rv, pv, vs, hs, rfl, hst, hok, l1, l2⟩
    · have HE2 : Hid (R = (⟨0, []⟩, 5)) := by unfold Hid; rw [HE.out, hn]
      clear hn
      go_wp2
      rw [HE2.out]
      exact bodyPost_ret (v := .tuple #[.agg #[.int .i64 0, .slice none 0 0], .int .i64 5]) (by simp [results, Try.results6, go_sem, ob]) rfl (DecResS.fail hb2 hX2 _ _)
    · have HE2 : Hid (R = if confB ⟨2 * m.sy, s.1.length, s.2⟩ c then decOne m (s.1.getD c.q.toNat mp0) c else (⟨0, []⟩, 2)) := by unfold Hid; rw [HE.out, hs]
      clear hs
      have DO := l13Decode_c w1.heap.size w2 bk g (g + 1) m s.2 s.1 rv pv vs c hst hok l1 l2 (hMA.ext (hx1.trans hx2)) HM.out (hCP.ext (hx1.trans hx2))
      rw [← HE2.out] at DO
      go_wp2_with fail
      refine DO.mono ?_
      rintro e w4 ⟨v4, rfl, hcp, hx4⟩
      obtain ⟨A9, k9, rfl, _, _⟩ := hcp.form
      clear ob of_ DO
      have bO4 := bO2.ext hx4
      have ob := bO4.cell
      have of_ := bO4.frozen
      obtain ⟨⟨uq, uts⟩, uc⟩ := R
      simp only at hcp ⊢
      go_wp2
      exact bodyPost_ret (v := .tuple #[.agg #[.int .i64 uq, .slice A9 uts.length k9], .int .i64 uc]) (by simp [results, Try.results6, go_sem, ob]) rfl (DecResS.over (r := (⟨uq, uts⟩, uc)) hb2 hX2 hx4 hcp bO4 _ _)
end Go.Proofs.Ytfghojbbofobeaa
end
section
set_option linter.unusedVariables false
set_option linter.unusedSimpArgs false
namespace Go.Proofs.Ytfghojbbofobeaa
open Go Go.RowKit Go.Proofs
set_option maxHeartbeats 400000
/-- The numbers in a rule's lists. -/
def szR (r : MRuleD) : Nat := r.rd.length + r.wr.length + r.mv.length
def totM : List MRuleD → Nat
  | [] => 0
  | r :: rs => szR r + totM rs
theorem totM_append (a b : List MRuleD) : totM (a ++ b) = totM a + totM b := by
  induction a with
  | nil => simp [totM]
  | cons r rs ih => simp only [List.cons_append, totM, ih]; omega
theorem totM_take_succ (rs : List MRuleD) (k : Nat) (h : k < rs.length) : totM (rs.take (k + 1)) = totM (rs.take k) + szR rs[k] := by
  rw [List.take_succ_eq_append_getElem h, totM_append]
  simp [totM]
theorem totM_take_le (rs : List MRuleD) (k : Nat) : totM (rs.take k) ≤ totM rs := by
  have := totM_append (rs.take k) (rs.drop k)
  rw [List.take_append_drop] at this
  omega
theorem szMultiRule_c (v : Value) (r : MRuleD) (left : Int) (w : World) (h : MRul w v r) (h0 : 0 ≤ left) (h1 : left ≤ 1048576) :
    Calls Try.prog 35 #[v, .int .i64 left] w fun e w' => e = .returned (.int .i64 (szF left (szR r))) ∧ Ext w w' := by
  obtain ⟨vr, vw, vm, rfl, i1, i2, i3⟩ := h
  obtain ⟨g, hg⟩ : ∃ g, w.heap.size = g := ⟨_, rfl⟩
  obtain ⟨W, hW⟩ : ∃ W, W = w.alloc (.cells #[.int .i64 r.st, vr, vw, vm, .int .i64 r.nx] 79) := ⟨_, rfl⟩
  have hX : Ext w W := by rw [hW]; exact Ext.alloc _ _
  have bM : Blk W g 79 #[.int .i64 r.st, vr, vw, vm, .int .i64 r.nx] := by rw [hW]; exact Blk.new _ _ _ _ hg
  have c1 := bM.cell 1
  have c2 := bM.cell 2
  have c3 := bM.cell 3
  simp only [List.getElem?_toArray, List.getElem?_cons_zero, List.getElem?_cons_succ] at c1 c2 c3
  have S1 := szInt64S_c _ r.rd left W (i1.ext hX) h0 h1
  have S2 := fun l (a : 0 ≤ l) (b : l ≤ 1048576) => szInt64S_c _ r.wr l W (i2.ext hX) a b
  have S3 := fun l (a : 0 ≤ l) (b : l ≤ 1048576) => szInt64S_c _ r.mv l W (i3.ext hX) a b
  have HX := Lib.hid hX
  obtain ⟨n1, e1⟩ : ∃ n, r.rd.length = n := ⟨_, rfl⟩
  obtain ⟨n2, e2⟩ : ∃ n, r.wr.length = n := ⟨_, rfl⟩
  obtain ⟨n3, e3⟩ : ∃ n, r.mv.length = n := ⟨_, rfl⟩
  have hsz : szR r = n1 + n2 + n3 := by unfold szR; rw [e1, e2, e3]
  rw [hsz]
  rw [e1] at S1
  rw [e2] at S2
  rw [e3] at S3
  clear hsz e1 e2 e3 hX bM i1 i2 i3
  go_enter Try.func35, Try.ntmps35
  go_wp2_with fail
  try rw [← hW]
  try rw [hg]
  clear hW
  refine S1.mono ?_
  rintro e w' ⟨rfl, rfl⟩
  by_cases l1 : left < n1
  · rw [szF_no l1]
    go_wp2
    go_ret
    exact ⟨by rw [szF_no (by omega)]; simp, HX.out⟩
  · rw [szF_yes l1]
    go_wp2_with fail
    refine (S2 _ (by omega) (by omega)).mono ?_
    rintro e w' ⟨rfl, rfl⟩
    by_cases l2 : left - n1 < n2
    · rw [szF_no l2]
      go_wp2
      go_ret
      exact ⟨by rw [szF_no (by omega)]; simp, HX.out⟩
    · rw [szF_yes l2]
      go_wp2_with fail
      refine (S3 _ (by omega) (by omega)).mono ?_
      rintro e w' ⟨rfl, rfl⟩
      by_cases l3 : left - n1 - n2 < n3
      · rw [szF_no l3]
        go_wp2
        go_ret
        exact ⟨by rw [szF_no (by omega)]; simp, HX.out⟩
      · rw [szF_yes l3]
        go_wp2
        go_ret
        exact ⟨by rw [szF_yes (by omega)]; simp; omega, HX.out⟩
theorem szMultiRuleS_c (v : Value) (rs : List MRuleD) (left : Int) (w : World) (h : MRules w v rs) (h0 : 0 ≤ left) (h1 : left ≤ 1048576) :
    Calls Try.prog 17 #[v, .int .i64 left] w fun e w' => e = .returned (.int .i64 (szF left (rs.length + totM rs))) ∧ Ext w w' := by
  obtain ⟨A, c, rfl, h2, h3⟩ := h.form
  by_cases hl : left < rs.length
  · rw [szF_no (by omega)]
    go_enter Try.func17, Try.ntmps17
    go_wp2
    go_ret
    exact ⟨by simp, Ext.refl _⟩
  · go_enter Try.func17, Try.ntmps17
    go_wp2
    go_loopw [1, 5] (fun l i wr => ∃ k : Nat, k ≤ rs.length ∧ i = .int .i64 k ∧ l = .int .i64 (left - rs.length - totM (rs.take k)) ∧ 0 ≤ left - rs.length - totM (rs.take k) ∧ Ext w wr) (fun _ i _ => rs.length - (intOf i).toNat)
    case atStart => exact ⟨0, Nat.zero_le _, rfl, by simp [totM], by simp [totM]; omega, Ext.refl _⟩
    case round =>
      obtain ⟨k, hk, rfl, rfl, hp, hx⟩ := hrel
      by_cases hlt : k < rs.length
      · obtain ⟨b, off, vr, vw, vm, rfl, c0, c1, c2, c3, c4, i1, i2, i3⟩ := h.at hlt
        have d0 := hx.cell c0
        have d1 := hx.cell c1
        have d2 := hx.cell c2
        have d3 := hx.cell c3
        have d4 := hx.cell c4
        have HT := Lib.hid (totM_take_succ rs k hlt)
        have hle := totM_take_le rs (k + 1)
        rw [HT.out] at hle
        have SQ := szMultiRule_c (.agg #[.int .i64 rs[k].st, vr, vw, vm, .int .i64 rs[k].nx]) rs[k] (left - rs.length - totM (rs.take k)) wr ⟨vr, vw, vm, rfl, i1.ext hx, i2.ext hx, i3.ext hx⟩ hp (by omega)
        clear h c0 c1 c2 c3 c4 i1 i2 i3
        generalize rs[k] = y at *
        generalize totM (rs.take k) = t at *
        generalize hsy : szR y = sy at *
        clear hsy
        by_cases hl2 : left - rs.length - t < sy
        · rw [szF_no hl2] at SQ
          go_wp2_with fail
          refine SQ.mono ?_
          rintro e w' ⟨rfl, hx2⟩
          go_wp2
          go_ret
          exact ⟨by rw [szF_no (by omega)]; simp, hx.trans hx2⟩
        · rw [szF_yes hl2] at SQ
          go_wp2_with fail
          refine SQ.mono ?_
          rintro e w' ⟨rfl, hx2⟩
          go_wp2
          go_roundw
          case rel => exact ⟨k + 1, by omega, by go_num, by rw [HT.out]; congr 1; omega, by rw [HT.out]; omega, hx.trans hx2⟩
          case measure => simp [intOf]; omega
      · have HK := Lib.hid (show rs.take k = rs from List.take_of_length_le (by omega))
        rw [HK.out] at hp ⊢
        go_wp2
        go_ret
        exact ⟨by rw [szF_yes (by omega)]; simp; omega, hx⟩
theorem szMulti_c (v : Value) (m : MultiD) (left : Int) (w : World) (h : Mult w v m) (h0 : 0 ≤ left) (h1 : left ≤ 1048576) :
    Calls Try.prog 4 #[v, .int .i64 left] w fun e w' => e = .returned (.int .i64 (szF left (m.rules.length + totM m.rules))) ∧ Ext w w' := by
  obtain ⟨rv, rfl, hr⟩ := h
  have hx := Ext.alloc w (.cells #[.int .i64 m.tp, .int .i64 m.sy, .int .i64 m.st, rv] 24)
  have SQ := szMultiRuleS_c _ _ _ _ (hr.ext hx) h0 h1
  obtain ⟨n, hn⟩ : ∃ n, m.rules.length + totM m.rules = n := ⟨_, rfl⟩
  rw [hn] at SQ ⊢
  clear hn
  go_enter Try.func4, Try.ntmps4
  go_wp2_with fail
  refine SQ.mono ?_
  rintro e w' ⟨rfl, hx2⟩
  have hX := hx.trans hx2
  clear SQ
  by_cases hl : left < n
  · rw [szF_no hl]
    go_wp2
    go_ret
    exact ⟨by rw [szF_no hl]; simp, hX⟩
  · rw [szF_yes hl]
    go_wp2
    go_ret
    exact ⟨by rw [szF_yes (by omega)]; simp, hX⟩
end Go.Proofs.Ytfghojbbofobeaa
end
