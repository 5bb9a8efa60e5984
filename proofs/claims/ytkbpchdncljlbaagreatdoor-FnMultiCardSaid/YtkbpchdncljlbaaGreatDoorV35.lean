/- Contract of the reference's test of a machine with several tapes. No condition.
Contract of the reference's text of a valid machine with several tapes.
Contract of the program's list of numbers with a blank between them. -/
import Derived.Test.YtkbpchdncljlbaaGreatDoorV34
import Derived.Test.YtkbpchdncljlbaaGreatDoorV33
import Derived.Test.YtkbpchdncljlbaaGreatDoorV06
import Derived.Test.YtkbpchdncljlbaaGreatDoorV05
import Derived.WalkSmall
section
set_option linter.unusedVariables false
set_option linter.unusedSimpArgs false
namespace Go.Proofs.YtkbpchdncljlbaaGreatDoor
open Go Go.RowKit Go.Proofs
set_option maxHeartbeats 400000
set_option maxRecDepth 20000 in
set_option maxHeartbeats 4000000 in
theorem l06Is_c (bm : Nat) (m : MultiD) (rv : Value) (w : World) (hb : Blk w bm 26 #[.int .i64 m.tp, .int .i64 m.sy, .int .i64 m.st, rv]) (hr : MRules w rv m.rules) :
    Calls Tryz.prog 33 #[.pointer (some ⟨bm, 0, none⟩)] w fun e w' => e = .returned (.bool (multiOk m)) ∧ Ext w w' := by
  obtain ⟨A, c, rfl, hc1, hc2⟩ := hr.form
  have m0 := hb.cell 0
  have m1 := hb.cell 1
  have m2 := hb.cell 2
  have m3 := hb.cell 3
  simp only [List.getElem?_toArray, List.getElem?_cons_zero, List.getElem?_cons_succ] at m0 m1 m2 m3
  obtain ⟨K, hK⟩ : ∃ K, multiOk m = K := ⟨_, rfl⟩
  rw [hK]
  have HK := Lib.hid hK
  clear hK
  have L1 := fun w => l00In_c m.tp 2 3 w
  have L2 := fun w => l00In_c m.sy 2 3 w
  have L3 := fun w => l00In_c m.st 1 16 w
  go_enter Tryz.func33, Tryz.ntmps33
  go_wp2_with fail
  refine (L1 w).mono ?_
  rintro e _ ⟨rfl, rfl⟩
  cases h1 : inB m.tp 2 3 with
  | false =>
    have HE : Hid (K = false) := by unfold Hid; rw [← HK.out, multiOk, h1]; simp
    clear h1
    go_wp2_with fail
    go_ret
    exact ⟨by rw [HE.out]; rfl, Ext.refl _⟩
  | true =>
    have H1 := Lib.hid h1
    clear h1
    go_wp2_with fail
    refine (L2 _).mono ?_
    rintro e _ ⟨rfl, rfl⟩
    cases h2 : inB m.sy 2 3 with
    | false =>
      have HE : Hid (K = false) := by unfold Hid; rw [← HK.out, multiOk, h2]; simp
      clear h2
      go_wp2_with fail
      go_ret
      exact ⟨by rw [HE.out]; rfl, Ext.refl _⟩
    | true =>
      have H2 := Lib.hid h2
      clear h2
      go_wp2_with fail
      refine (L3 _).mono ?_
      rintro e _ ⟨rfl, rfl⟩
      cases h3 : inB m.st 1 16 with
      | false =>
        have HE : Hid (K = false) := by unfold Hid; rw [← HK.out, multiOk, h3]; simp
        clear h3
        go_wp2_with fail
        go_ret
        exact ⟨by rw [HE.out]; rfl, Ext.refl _⟩
      | true =>
        have H3 := Lib.hid h3
        clear h3
        by_cases h4 : m.rules.length ≤ 60
        · have i4 : ¬ (60 : Int) < (m.rules.length : Int) := by omega
          obtain ⟨t1, t2⟩ := inB_iff.1 H1.out
          obtain ⟨s1, s2⟩ := inB_iff.1 H2.out
          obtain ⟨q1, q2⟩ := inB_iff.1 H3.out
          have hw1 : IntKind.i64.wrap (m.st - 1) = m.st - 1 := IntWalk.i64_in _ (by omega)
          have hw2 : IntKind.i64.wrap (m.sy - 1) = m.sy - 1 := IntWalk.i64_in _ (by omega)
          clear L1 L2 L3
          go_wp2_with fail
          go_loopw [3] (fun i wr => ∃ k : Nat, k ≤ m.rules.length ∧ i = .int .i64 (k : Int) ∧ Ext w wr ∧ Hid (∀ j, j < k → mstepOk m j = true)) (fun i _ => m.rules.length - (intOf i).toNat)
          case atStart => exact ⟨0, Nat.zero_le _, rfl, Ext.refl _, Lib.hid fun j hj => by omega⟩
          case round =>
            obtain ⟨k, hk, rfl, hx, HOK⟩ := hrel
            have e0 := hx.cell m0
            have e1 := hx.cell m1
            have e2 := hx.cell m2
            have e3 := hx.cell m3
            by_cases hlt : k < m.rules.length
            · have hrr := hr.ext hx
              obtain ⟨b, off, vr, vw, vm, rfl, c0, c1, c2, c3, c4, j1, j2, j3⟩ := hrr.at hlt
              have hgd : m.rules.getD k mr0 = m.rules[k] := by rw [List.getD_eq_getElem?_getD, List.getElem?_eq_getElem hlt]; rfl
              have HBF : Hid (∀ (hp : 0 < k) (X : World), Ext wr X → Calls Tryz.prog 70 #[.pointer (some ⟨b, off + (k - 1) * 5, none⟩), .pointer (some ⟨b, off + k * 5, none⟩)] X fun e w' => e = .returned (.bool (decide (cmpM (m.rules.getD (k - 1) mr0) (m.rules.getD k mr0) < 0))) ∧ Ext X w') := Lib.hid fun hp X hX => by
                have hp1 : k - 1 < m.rules.length := by omega
                obtain ⟨b', off', vr', vw', vm', e', d0, d1, d2, d3, d4, k1, k2, k3⟩ := (hrr.ext hX).at hp1
                cases e'
                have hgp : m.rules.getD (k - 1) mr0 = m.rules[k - 1] := by rw [List.getD_eq_getElem?_getD, List.getElem?_eq_getElem hp1]; rfl
                rw [hgd, hgp]
                exact l06Before_c b _ b _ _ _ _ _ X d0 d1 (hX.cell c0) (hX.cell c1) k1 (j1.ext hX)
              have HMS : Hid (mstepOk m k = (mruleOk m (m.rules.getD k mr0) && (decide (k = 0) || decide (cmpM (m.rules.getD (k - 1) mr0) (m.rules.getD k mr0) < 0)))) := rfl
              obtain ⟨r, hrk⟩ : ∃ r, m.rules[k] = r := ⟨_, rfl⟩
              rw [hgd] at HBF HMS
              rw [hrk] at c0 c4 j1 j2 j3 HBF HMS
              clear hgd hrk
              obtain ⟨A1, k1, rfl, _, _⟩ := j1.form
              obtain ⟨A2, k2, rfl, _, _⟩ := j2.form
              obtain ⟨A3, k3, rfl, _, _⟩ := j3.form
              have I1 := fun X => l00In_c r.st 0 (m.st - 1) X
              have I2 := fun X => l00In_c r.nx 0 (m.st - 1) X
              have R1 := fun X (hX : Ext wr X) => l06Row_c _ r.rd m.tp 0 (m.sy - 1) X (j1.ext hX)
              have R2 := fun X (hX : Ext wr X) => l06Row_c _ r.wr m.tp 0 (m.sy - 1) X (j2.ext hX)
              have R3 := fun X (hX : Ext wr X) => l06Row_c _ r.mv m.tp (-1) 1 X (j3.ext hX)
              have HRO : Hid (mruleOk m r = (inB r.st 0 (m.st - 1) && inB r.nx 0 (m.st - 1) && ((decide ((r.rd.length : Int) = m.tp) && r.rd.all fun z => inB z 0 (m.sy - 1)) && (decide ((r.wr.length : Int) = m.tp) && r.wr.all fun z => inB z 0 (m.sy - 1)) && (decide ((r.mv.length : Int) = m.tp) && r.mv.all fun z => inB z (-1) 1)))) := by
                unfold Hid mruleOk allIn
                simp only [Bool.and_assoc, Bool.and_left_comm]
              generalize inB r.st 0 (m.st - 1) = y1 at *
              generalize inB r.nx 0 (m.st - 1) = y2 at *
              generalize (decide ((r.rd.length : Int) = m.tp) && r.rd.all fun z => inB z 0 (m.sy - 1)) = z1 at *
              generalize (decide ((r.wr.length : Int) = m.tp) && r.wr.all fun z => inB z 0 (m.sy - 1)) = z2 at *
              generalize (decide ((r.mv.length : Int) = m.tp) && r.mv.all fun z => inB z (-1) 1) = z3 at *
              have HNO : Hid (mruleOk m r = false → K = false) := Lib.hid fun h => by rw [← HK.out]; exact multi_no hlt (by rw [HMS.out, h]; rfl)
              have g0 := cellR e0
              have g1 := cellR e1
              have g2 := cellR e2
              have f0 := cellR c0
              have f4 := cellR c4
              have E0 := Lib.hid e0
              have E1 := Lib.hid e1
              have E3 := Lib.hid e3
              have C0 := Lib.hid c0
              have C1 := Lib.hid c1
              have C2 := Lib.hid c2
              have C3 := Lib.hid c3
              have R1H := Lib.hid R1
              have R2H := Lib.hid R2
              have R3H := Lib.hid R3
              clear hr hrr hb j1 j2 j3 m0 m1 m2 m3 e0 e1 e2 c0 c1 c2 c3 c4 R1 R2 R3
              generalize r.rd.length = l1 at *
              generalize r.wr.length = l2 at *
              generalize r.mv.length = l3 at *
              cases y1 with
              | false =>
                have HE : Hid (K = false) := Lib.hid (HNO.out (by rw [HRO.out]; simp))
                go_wp2_with fail
                refine wp_region_ext (by kernel_rfl) (by kernel_rfl) ?_
                repeat (go_big_quiet_step ((go_at_call 36; first | with_reducible exact Calls.sameR (I1 _) | with_reducible exact Calls.sameR (I2 _))))
                refine wpQuiet_nil ?_
                intro w2 hxw2
                go_wp2_with fail
                go_ret
                exact ⟨by rw [HE.out]; rfl, hx.trans hxw2⟩
              | true =>
                cases y2 with
                | false =>
                  have HE : Hid (K = false) := Lib.hid (HNO.out (by rw [HRO.out]; simp))
                  go_wp2_with fail
                  refine wp_region_ext (by kernel_rfl) (by kernel_rfl) ?_
                  repeat (go_big_quiet_step ((go_at_call 36; first | with_reducible exact Calls.sameR (I1 _) | with_reducible exact Calls.sameR (I2 _))))
                  refine wpQuiet_nil ?_
                  intro w2 hxw2
                  go_wp2_with fail
                  go_ret
                  exact ⟨by rw [HE.out]; rfl, hx.trans hxw2⟩
                | true =>
                  go_wp2_with fail
                  refine wp_region_ext (by kernel_rfl) (by kernel_rfl) ?_
                  repeat (go_big_quiet_step ((go_at_call 36; first | with_reducible exact Calls.sameR (I1 _) | with_reducible exact Calls.sameR (I2 _))))
                  refine wpQuiet_nil ?_
                  intro w2 hxw2
                  have a0 := hxw2.cell E0.out
                  have a1 := hxw2.cell E1.out
                  have b1 := hxw2.cell C1.out
                  have b2 := hxw2.cell C2.out
                  have b3 := hxw2.cell C3.out
                  have R1w := fun d os => R1H.out (Sort.grow (redrawn w2 d) os) (hxw2.trans (below_regrown _ _ _))
                  have R2w := fun d os => R2H.out (Sort.grow (redrawn w2 d) os) (hxw2.trans (below_regrown _ _ _))
                  have R3w := fun d os => R3H.out (Sort.grow (redrawn w2 d) os) (hxw2.trans (below_regrown _ _ _))
                  clear g0 g1 g2 f0 f4 I1 I2 e3
                  have g0 := cellR a0
                  have g1 := cellR a1
                  have f1 := cellR b1
                  have f2 := cellR b2
                  have f3 := cellR b3
                  cases z1 with
                  | false =>
                    have HE : Hid (K = false) := Lib.hid (HNO.out (by rw [HRO.out]; simp))
                    go_wp2_with fail
                    refine wp_region_ext (by kernel_rfl) (by kernel_rfl) ?_
                    repeat (go_big_quiet_step ((go_at_call 69; first | with_reducible exact Calls.sameR (R1w _ _) | with_reducible exact Calls.sameR (R2w _ _) | with_reducible exact Calls.sameR (R3w _ _))))
                    refine wpQuiet_nil ?_
                    intro w3 hxw3
                    go_wp2_with fail
                    go_ret
                    exact ⟨by rw [HE.out]; rfl, (hx.trans hxw2).trans hxw3⟩
                  | true =>
                    cases z2 with
                    | false =>
                      have HE : Hid (K = false) := Lib.hid (HNO.out (by rw [HRO.out]; simp))
                      go_wp2_with fail
                      refine wp_region_ext (by kernel_rfl) (by kernel_rfl) ?_
                      repeat (go_big_quiet_step ((go_at_call 69; first | with_reducible exact Calls.sameR (R1w _ _) | with_reducible exact Calls.sameR (R2w _ _) | with_reducible exact Calls.sameR (R3w _ _))))
                      refine wpQuiet_nil ?_
                      intro w3 hxw3
                      go_wp2_with fail
                      go_ret
                      exact ⟨by rw [HE.out]; rfl, (hx.trans hxw2).trans hxw3⟩
                    | true =>
                      cases z3 with
                      | false =>
                        have HE : Hid (K = false) := Lib.hid (HNO.out (by rw [HRO.out]; simp))
                        go_wp2_with fail
                        refine wp_region_ext (by kernel_rfl) (by kernel_rfl) ?_
                        repeat (go_big_quiet_step ((go_at_call 69; first | with_reducible exact Calls.sameR (R1w _ _) | with_reducible exact Calls.sameR (R2w _ _) | with_reducible exact Calls.sameR (R3w _ _))))
                        refine wpQuiet_nil ?_
                        intro w3 hxw3
                        go_wp2_with fail
                        go_ret
                        exact ⟨by rw [HE.out]; rfl, (hx.trans hxw2).trans hxw3⟩
                      | true =>
                        go_wp2_with fail
                        refine wp_region_ext (by kernel_rfl) (by kernel_rfl) ?_
                        repeat (go_big_quiet_step ((go_at_call 69; first | with_reducible exact Calls.sameR (R1w _ _) | with_reducible exact Calls.sameR (R2w _ _) | with_reducible exact Calls.sameR (R3w _ _))))
                        refine wpQuiet_nil ?_
                        intro w3 hxw3
                        have HRT : Hid (mruleOk m r = true) := Lib.hid (by rw [HRO.out]; rfl)
                        have n3 := (hxw2.trans hxw3).cell E3.out
                        clear g0 g1 f1 f2 f3 R1w R2w R3w HNO HRO a0 a1 b1 b2 b3
                        have hX3 := hxw2.trans hxw3
                        have hXA := hx.trans hX3
                        by_cases h0 : k = 0
                        · subst h0
                          have HS : Hid (∀ j, j < 0 + 1 → mstepOk m j = true) := Lib.hid fun j hj => by
                            obtain rfl : j = 0 := by omega
                            rw [HMS.out, HRT.out]
                            rfl
                          clear hx hxw2 hxw3 HBF
                          go_wp2_with fail
                          go_roundw
                          case rel => exact ⟨0 + 1, by omega, by go_num, hXA, HS.out⟩
                          case measure => simp [intOf]; omega
                        · obtain ⟨j, rfl⟩ : ∃ j, k = j + 1 := ⟨k - 1, by omega⟩
                          have BF := HBF.out (by omega) w3 hX3
                          simp only [Nat.add_sub_cancel] at BF HMS
                          generalize cmpM (m.rules.getD j mr0) r = y at *
                          have hk1 : (((j + 1 : Nat) : Int) - 1) = (j : Int) := by omega
                          have hk2 : IntKind.i64.wrap (((j + 1 : Nat) : Int) - 1) = (j : Int) := by rw [hk1]; exact IntWalk.i64_in _ (by omega)
                          have hk3 : IntKind.i64.wrap (j : Int) = (j : Int) := IntWalk.i64_in _ (by omega)
                          clear HBF hx hxw2 hxw3
                          cases hy : decide (y < 0) with
                          | false =>
                            have HE : Hid (K = false) := by unfold Hid; rw [← HK.out]; exact multi_no hlt (by rw [HMS.out, hy]; simp)
                            rw [hy] at BF
                            clear hy
                            go_wp2_with fail
                            refine BF.mono ?_
                            rintro e w4 ⟨rfl, hx4⟩
                            go_wp2_with fail
                            go_ret
                            exact ⟨by rw [HE.out]; rfl, hXA.trans hx4⟩
                          | true =>
                            have HS : Hid (∀ i, i < j + 1 + 1 → mstepOk m i = true) := Lib.hid fun i hi => by
                              by_cases e : i = j + 1
                              · subst e
                                rw [HMS.out, HRT.out, hy]
                                simp
                              · exact HOK.out i (by omega)
                            rw [hy] at BF
                            clear hy
                            go_wp2_with fail
                            refine BF.mono ?_
                            rintro e w4 ⟨rfl, hx4⟩
                            go_wp2_with fail
                            go_roundw
                            case rel => exact ⟨j + 1 + 1, by omega, by go_num, hXA.trans hx4, HS.out⟩
                            case measure => simp [intOf]; omega
            · obtain rfl : k = m.rules.length := by omega
              have HE : Hid (K = true) := by
                unfold Hid
                rw [← HK.out]
                simp only [multiOk, H1.out, H2.out, H3.out, Bool.and_eq_true, decide_eq_true_eq, List.all_eq_true, List.mem_range]
                exact ⟨⟨⟨⟨trivial, trivial⟩, trivial⟩, h4⟩, fun j hj => HOK.out j hj⟩
              go_wp2_with fail
              go_ret
              exact ⟨by rw [HE.out]; rfl, hx⟩
        · have i4 : (60 : Int) < (m.rules.length : Int) := by omega
          have HE : Hid (K = false) := by unfold Hid; rw [← HK.out, multiOk, decide_eq_false h4]; simp
          go_wp2_with fail
          go_ret
          exact ⟨by rw [HE.out]; rfl, Ext.refl _⟩
end Go.Proofs.YtkbpchdncljlbaaGreatDoor
end
section
set_option linter.unusedSimpArgs false
set_option linter.unusedVariables false
namespace Go.Proofs.YtkbpchdncljlbaaGreatDoor
open Go Go.RowKit Go.Proofs
set_option maxHeartbeats 400000
/-- The text of a rule. -/
def mruT (r : MRuleD) : List UInt8 := Lib.itoa r.st ++ 32 :: (digB r.rd ++ 32 :: (digB r.wr ++ 32 :: (mvB r.mv ++ 32 :: Lib.itoa r.nx)))
def mheT (m : MultiD) : List UInt8 := Lib.itoa m.tp ++ 32 :: (Lib.itoa m.sy ++ 32 :: Lib.itoa m.st)
/-- The text of a machine. -/
def mltT (m : MultiD) : List UInt8 := mheT m ++ m.rules.flatMap fun r => 10 :: mruT r
theorem itoaS_bs (n : Int) : itoaS n = bsS (Lib.itoa n) := rfl
theorem bs_one (c : UInt8) : (⟨#[c]⟩ : ByteArray) = bsS [c] := rfl
theorem mheT_app (m : MultiD) : itoaS m.tp ++ ⟨#[32]⟩ ++ itoaS m.sy ++ ⟨#[32]⟩ ++ itoaS m.st = bsS (mheT m) := by
  simp only [itoaS_bs, bs_one, bsS_app]
  congr 1
  simp [mheT]
theorem mruT_app (r : MRuleD) : (⟨#[10]⟩ : ByteArray) ++ itoaS r.st ++ ⟨#[32]⟩ ++ bsS (digB r.rd) ++ ⟨#[32]⟩ ++ bsS (digB r.wr) ++ ⟨#[32]⟩ ++ bsS (mvB r.mv) ++ ⟨#[32]⟩ ++ itoaS r.nx = bsS (10 :: mruT r) := by
  simp only [itoaS_bs, bs_one, bsS_app]
  congr 1
  simp [mruT]
theorem mruT_len {r : MRuleD} (h1 : 0 ≤ r.st ∧ r.st ≤ 1000) (h2 : 0 ≤ r.nx ∧ r.nx ≤ 1000) (h3 : r.rd.length ≤ 3 ∧ r.wr.length ≤ 3 ∧ r.mv.length ≤ 3) : (10 :: mruT r).length ≤ 60 := by
  have a := itoaS_size (n := r.st) h1.1 (by omega)
  have b := itoaS_size (n := r.nx) h2.1 (by omega)
  rw [itoaS_bs, bs_size] at a b
  simp [mruT, digB, mvB]
  omega
set_option maxRecDepth 20000 in
set_option maxHeartbeats 8000000 in
theorem l06Text_c (bm : Nat) (m : MultiD) (rv : Value) (w : World) (hb : Blk w bm 26 #[.int .i64 m.tp, .int .i64 m.sy, .int .i64 m.st, rv]) (hR : MRules w rv m.rules) (hm : multiOk m = true) :
    Calls Tryz.prog 34 #[.pointer (some ⟨bm, 0, none⟩)] w fun e w' => e = .returned (.string (bsS (mltT m))) ∧ Ext w w' := by
  obtain ⟨⟨t1, t2⟩, ⟨y1, y2⟩, ⟨s1, s2⟩, hl, _⟩ := multi_all hm
  obtain ⟨A, cA, rfl, _, _⟩ := hR.form
  have m0 : w.cell? ⟨bm, 0, none⟩ = some (.int .i64 m.tp) := hb.cell 0
  have m1 : w.cell? ⟨bm, 1, none⟩ = some (.int .i64 m.sy) := hb.cell 1
  have m2 : w.cell? ⟨bm, 2, none⟩ = some (.int .i64 m.st) := hb.cell 2
  have d0 := cellR m0
  have d1 := cellR m1
  have d2 := cellR m2
  have D0 := fun W => l01Dec_c m.tp W (by omega) (by omega)
  have D1 := fun W => l01Dec_c m.sy W (by omega) (by omega)
  have D2 := fun W => l01Dec_c m.st W (by omega) (by omega)
  have z0 := itoaS_size (n := m.tp) (by omega) (by omega)
  have z1 := itoaS_size (n := m.sy) (by omega) (by omega)
  have z2 := itoaS_size (n := m.st) (by omega) (by omega)
  have HH := Lib.hid (mheT_app m)
  have hhl : (mheT m).length ≤ 60 := by
    rw [itoaS_bs, bs_size] at z0 z1 z2
    simp [mheT]
    omega
  have HM := Lib.hid hm
  have HB := Lib.hid hb
  have HR := Lib.hid hR
  obtain ⟨hd, hhd⟩ : ∃ l, mheT m = l := ⟨_, rfl⟩
  rw [hhd] at hhl
  have HHD := Lib.hid hhd
  generalize itoaS m.tp = x0 at *
  generalize itoaS m.sy = x1 at *
  generalize itoaS m.st = x2 at *
  have k0 : ¬ 9223372036854775807 < x0.size + 1 := by omega
  have k1 : ¬ 9223372036854775807 < x0.size + 1 + x1.size := by omega
  have k2 : ¬ 9223372036854775807 < x0.size + 1 + x1.size + 1 := by omega
  have k3 : ¬ 9223372036854775807 < x0.size + 1 + x1.size + 1 + x2.size := by omega
  clear hm hb hR hhd
  go_enter Tryz.func34, Tryz.ntmps34
  go_wp2_with fail
  refine wp_region_ext (by kernel_rfl) (by kernel_rfl) ?_
  repeat (go_big_quiet_step ((go_at_call 71; first | with_reducible exact Calls.extR (D0 _) | with_reducible exact Calls.extR (D1 _) | with_reducible exact Calls.extR (D2 _))))
  refine wpQuiet_nil ?_
  intro w1 hx1
  rw [HH.out, HHD.out]
  clear D0 D1 D2 d0 d1 d2 m0 m1 m2
  go_wp2_with fail
  go_loopw [3, 4] (fun s i wr => ∃ k : Nat, k ≤ m.rules.length ∧ s = .string (bsS (hd ++ (m.rules.take k).flatMap fun r => 10 :: mruT r)) ∧ i = .int .i64 (k : Int) ∧ (hd ++ (m.rules.take k).flatMap fun r => 10 :: mruT r).length ≤ 60 + 60 * k ∧ Ext w wr) (fun _ i _ => m.rules.length - (intOf i).toNat)
  case atStart => exact ⟨0, Nat.zero_le _, by simp, rfl, by simpa using hhl, hx1⟩
  case round =>
    obtain ⟨k, hk, rfl, rfl, hsz, hE⟩ := hrel
    have m3 : wr.cell? ⟨bm, 3, none⟩ = some (.slice A m.rules.length cA) := (HB.out.ext hE).cell 3
    by_cases hlt : k < m.rules.length
    · obtain ⟨b, off, vr, vw, vm, rfl, c0, c1, c2, c3, c4, i1, i2, i3⟩ := (HR.out.ext hE).at hlt
      have hro := mrule_all (multi_rule HM.out hlt)
      have hnx : Hid ((hd ++ (m.rules.take k).flatMap fun r => 10 :: mruT r) ++ (10 :: mruT m.rules[k]) = hd ++ (m.rules.take (k + 1)).flatMap fun r => 10 :: mruT r) := Lib.hid (by
        rw [List.take_succ_eq_append_getElem hlt, List.flatMap_append, List.append_assoc]
        simp)
      obtain ⟨r, hrk⟩ : ∃ r, m.rules[k] = r := ⟨_, rfl⟩
      rw [hrk] at c0 c4 i1 i2 i3 hro hnx
      obtain ⟨⟨q1, q2⟩, ⟨n1, n2⟩, l1, l2, l3, p1, p2, p3⟩ := hro
      obtain ⟨A1, f1, rfl, _, _⟩ := id i1.form
      obtain ⟨A2, f2, rfl, _, _⟩ := id i2.form
      obtain ⟨A3, f3, rfl, _, _⟩ := id i3.form
      have E0 := fun W => l01Dec_c r.st W (by omega) (by omega)
      have E4 := fun W => l01Dec_c r.nx W (by omega) (by omega)
      have E1 := fun D os => l06Digits_c _ _ _ (i1.ext (below_regrown wr D os)) (fun z hz => by have := p1 z hz; omega) (by omega)
      have E2 := fun D os => l06Digits_c _ _ _ (i2.ext (below_regrown wr D os)) (fun z hz => by have := p2 z hz; omega) (by omega)
      have E3 := fun D os => l06Moves_c _ _ _ (i3.ext (below_regrown wr D os)) (fun z hz => by have := p3 z hz; omega) (by omega)
      have hT := mruT_app r
      have hTl := mruT_len (r := r) (by omega) (by omega) (by omega)
      have z0 := itoaS_size (n := r.st) (by omega) (by omega)
      have z4 := itoaS_size (n := r.nx) (by omega) (by omega)
      have z1 : (bsS (digB r.rd)).size ≤ 3 := by rw [bs_size]; simp [digB]; omega
      have z2 : (bsS (digB r.wr)).size ≤ 3 := by rw [bs_size]; simp [digB]; omega
      have z3 : (bsS (mvB r.mv)).size ≤ 3 := by rw [bs_size]; simp [mvB]; omega
      obtain ⟨t, htt⟩ : ∃ t, 10 :: mruT r = t := ⟨_, rfl⟩
      rw [htt] at hT hTl hnx
      obtain ⟨acc, hacc⟩ : ∃ t, (hd ++ (m.rules.take k).flatMap fun r => 10 :: mruT r) = t := ⟨_, rfl⟩
      rw [hacc] at hnx hsz
      rw [hacc]
      have hns : (hd ++ (m.rules.take (k + 1)).flatMap fun r => 10 :: mruT r).length ≤ 60 + 60 * (k + 1) := by
        rw [← hnx.out, List.length_append]
        omega
      have HNS := Lib.hid hns
      have HTT : Hid (bsS acc ++ bsS t = bsS (hd ++ (m.rules.take (k + 1)).flatMap fun r => 10 :: mruT r)) := Lib.hid (by rw [bsS_app, hnx.out])
      have hsa : (bsS acc).size ≤ 4000 := by rw [bs_size]; omega
      have hst : (bsS t).size ≤ 60 := by rw [bs_size]; omega
      have HT := Lib.hid hT
      generalize itoaS r.st = x0 at *
      generalize itoaS r.nx = x4 at *
      generalize bsS (digB r.rd) = x1 at *
      generalize bsS (digB r.wr) = x2 at *
      generalize bsS (mvB r.mv) = x3 at *
      have k0 : ¬ 9223372036854775807 < 1 + x0.size := by omega
      have k1 : ¬ 9223372036854775807 < 1 + x0.size + 1 := by omega
      have k2 : ¬ 9223372036854775807 < 1 + x0.size + 1 + x1.size := by omega
      have k3 : ¬ 9223372036854775807 < 1 + x0.size + 1 + x1.size + 1 := by omega
      have k4 : ¬ 9223372036854775807 < 1 + x0.size + 1 + x1.size + 1 + x2.size := by omega
      have k5 : ¬ 9223372036854775807 < 1 + x0.size + 1 + x1.size + 1 + x2.size + 1 := by omega
      have k6 : ¬ 9223372036854775807 < 1 + x0.size + 1 + x1.size + 1 + x2.size + 1 + x3.size := by omega
      have k7 : ¬ 9223372036854775807 < 1 + x0.size + 1 + x1.size + 1 + x2.size + 1 + x3.size + 1 := by omega
      have k8 : ¬ 9223372036854775807 < 1 + x0.size + 1 + x1.size + 1 + x2.size + 1 + x3.size + 1 + x4.size := by omega
      have k9 : ¬ 9223372036854775807 < (bsS acc).size + (1 + x0.size + 1 + x1.size + 1 + x2.size + 1 + x3.size + 1 + x4.size) := by omega
      have dc0 := cellR c0
      have dc1 := cellR c1
      have dc2 := cellR c2
      have dc3 := cellR c3
      have dc4 := cellR c4
      have HI := Lib.hid hE
      generalize bsS acc = sa at *
      clear hacc hrk htt i1 i2 i3 p1 p2 p3 hT
      go_wp2_with fail
      refine wp_region_ext (by kernel_rfl) (by kernel_rfl) ?_
      repeat (go_big_quiet_step (first | (go_at_call 71; first | with_reducible exact Calls.extR (E0 _) | with_reducible exact Calls.extR (E4 _)) | (go_at_call 72; first | with_reducible exact Calls.extR (E1 _ _) | with_reducible exact Calls.extR (E2 _ _)) | (go_at_call 73; with_reducible exact Calls.extR (E3 _ _))))
      refine wpQuiet_nil ?_
      intro w2 hx2
      rw [HT.out, HTT.out]
      have HE2 := HI.out.trans hx2
      clear E0 E1 E2 E3 E4 dc0 dc1 dc2 dc3 dc4 c0 c1 c2 c3 c4 m3
      go_wp2_with fail
      go_roundw
      case rel => exact ⟨k + 1, by omega, rfl, by go_num, HNS.out, HE2⟩
      case measure => simp [intOf]; omega
    · obtain rfl : k = m.rules.length := by omega
      rw [List.take_length]
      go_wp2_with fail
      go_ret
      exact ⟨by unfold mltT; rw [HHD.out]; rfl, hE⟩
set_option maxRecDepth 20000 in
set_option maxHeartbeats 4000000 in
theorem MultiTextS_c (m : MultiD) (mv : Value) (w : World) (hM : Mult w mv m) (hm : multiOk m = true) :
    Calls Tryz.prog 10 #[mv] w fun e w' => e = .returned (.string (bsS (mltT m))) ∧ Ext w w' := by
  obtain ⟨rv, rfl, hR⟩ := id hM
  obtain ⟨A, cA, rfl, _, _⟩ := hR.form
  obtain ⟨g, hg⟩ : ∃ g, w.heap.size = g := ⟨_, rfl⟩
  obtain ⟨V, hV⟩ : ∃ V, V = w.alloc (.cells #[.int .i64 m.tp, .int .i64 m.sy, .int .i64 m.st, .slice A m.rules.length cA] 26) := ⟨_, rfl⟩
  have hX : Ext w V := by rw [hV]; exact Ext.alloc _ _
  have bM : Blk V g 26 #[.int .i64 m.tp, .int .i64 m.sy, .int .i64 m.st, .slice A m.rules.length cA] := by rw [hV]; exact Blk.new _ _ _ _ hg
  have IS := l06Is_c g m _ V bM (hR.ext hX)
  rw [hm] at IS
  have TX := fun W (h : Ext V W) => l06Text_c g m _ W (bM.ext h) (hR.ext (hX.trans h)) hm
  go_enter Tryz.func10, Tryz.ntmps10
  go_wp2_with fail
  try rw [← hV]
  try rw [hg]
  clear hV
  refine IS.mono ?_
  rintro e w1 ⟨rfl, hx1⟩
  have TX1 := TX w1 hx1
  clear TX IS
  go_wp2_with fail
  refine TX1.mono ?_
  rintro e w2 ⟨rfl, hx2⟩
  clear TX1
  go_wp2_with fail
  go_ret
  exact ⟨rfl, (hX.trans hx1).trans hx2⟩
end Go.Proofs.YtkbpchdncljlbaaGreatDoor
end
section
set_option linter.unusedSimpArgs false
set_option linter.unusedVariables false
namespace Go.Proofs.YtkbpchdncljlbaaGreatDoor
open Go Go.RowKit Go.Proofs
set_option maxHeartbeats 400000
def spJ (x : List Int) : List UInt8 := Lib.join (x.map Lib.itoa) [32]
theorem mheT_join (m : MultiD) : spJ [m.tp, m.sy, m.st] = mheT m := by
  simp [spJ, mheT, Lib.join, Lib.joinTail]
theorem spJ_length (x : List Int) (hb : ∀ z ∈ x, -1000000 ≤ z ∧ z ≤ 1000000) : (spJ x).length ≤ 22 * x.length := by
  have h1 := lens_le x hb
  cases x with
  | nil => simp [spJ, Lib.join_nil]
  | cons a x =>
    unfold spJ
    rw [List.map_cons, Lib.join_length]
    simp only [List.map_cons, List.length_cons, List.length_nil, List.length_map] at *
    omega
theorem decimalsB_c (v : Value) (x : List Int) (w : World) (h : Ints w v x) (h0 : 1 ≤ x.length) (h1 : x.length ≤ 11) (hb : ∀ z ∈ x, -1000000 ≤ z ∧ z ≤ 1000000) (hT : Tab w) :
    Calls Tryz.prog 28 #[v, .string ⟨#[32]⟩] w fun e w' => e = .returned (.string ⟨(spJ x).toArray⟩) ∧ Ext w w' := by
  obtain ⟨A, c, rfl, h2, h2'⟩ := h.form
  obtain ⟨i0, hi, hz0, hz1, hz2⟩ := info_parts strInfo
  have HB := Lib.hid hb
  have hkl := spJ_length x hb
  clear hb
  go_enter Tryz.func28, Tryz.ntmps28
  go_wp2
  have hown0 : (w.alloc (.cells #[] 9)).ownsRow w.heap.size 9 1 (.slice (some ⟨w.heap.size, 0, none⟩) 0 0) 0 [] :=
    World.ownsRow_made (base := w.heap.size) (e := 9) (size := 1) w #[] 0 (by simp) (by unfold maxLen; omega) (by simp)
  have hX0 := Ext.alloc w (.cells #[] 9)
  generalize w.alloc (.cells #[] 9) = W at *
  go_loopw [5, 11] (fun l i wr => ∃ k : Nat, k ≤ x.length ∧ i = .int .i64 k ∧ Ext w wr ∧ wr.ownsRow w.heap.size 9 1 l k (svs (x.take k))) (fun _ i _ => x.length - (intOf i).toNat)
  case atStart => exact ⟨0, Nat.zero_le _, rfl, hX0, hown0⟩
  case round =>
    clear hown0 hX0
    obtain ⟨k, hk, rfl, hX, ho⟩ := hrel
    obtain ⟨Al, cl, rfl, h3, h3', _⟩ := (ownsRow_row ho).form
    by_cases hlt : k < x.length
    · obtain ⟨b, off, rfl, hc⟩ := h.at hlt
      have c0 := hX.cell (hc k hlt)
      obtain ⟨z1, z2⟩ := HB.out x[k] (List.getElem_mem hlt)
      have HS := Lib.hid (svs_take x k hlt)
      clear hc
      go_wp2_with fail
      refine (Decimal_c _ _ z1 z2 (hT.ext hX)).mono ?_
      rintro e w2 ⟨rfl, hx2⟩
      have ho2 := ownsRow_ext ho hx2
      have hX2 := hX.trans hx2
      have hsz := hX2.size
      clear c0
      go_wp2_with (at_builtin; refine wpList_append_own _ rfl _ _ 59 rfl w.heap.size 9 i0 (.string ⟨#[]⟩) 1 16 Tryz.underlying59 hi hz0 hz1 hz2 rfl (by decide) _ _ _ rfl (ho2.alloc _) ⟨w2.heap.size, 0, none⟩ 1 1 [.string (itoaS x[k])] rfl rfl ?c1 ?c2 ?c3 ?c4 ?c5 ?_)
      case c1 =>
        intro j u hj
        match j, hj with
        | 0, hj => simp at hj; subst hj; simp [Addr.add]
      case c2 => intro u hu; simp at hu; subst hu; rfl
      case c3 => unfold maxLen; omega
      case c4 => omega
      case c5 => simp; omega
      intro v' w3 hown' hgrow _
      have hX3 : Ext w w3 := hX2.grown (grownBy_trans (World.grownBy_alloc _ _ _) hgrow) (fun b hb => (ho2.lt b hb).1)
      have R : w3.ownsRow w.heap.size 9 1 v' (k + 1) (svs (x.take (k + 1))) := by rw [HS.out]; exact hown'
      clear hown' hgrow ho2 ho
      go_wp2
      go_roundw
      case rel => exact ⟨k + 1, by omega, by go_num, hX3, R⟩
      case measure => simp [intOf]; omega
    · obtain rfl : k = x.length := by omega
      have HT := Lib.hid (show x.take x.length = x from List.take_of_length_le (Nat.le_refl _))
      rw [HT.out] at ho
      obtain ⟨g, rfl, hbg, hgl⟩ := own_at ho (by omega)
      have hcells : ∀ (j : Nat) s, (x.map itoaS)[j]? = some s → wr.cell? ⟨g, 0 + j, none⟩ = some (.string s) := by
        intro j s hj
        have hjl : j < x.length := by have := (List.getElem?_eq_some_iff.1 hj).1; simpa using this
        rw [Nat.zero_add, ho.cellAt j (by omega)]
        simp only [svs, List.getElem?_map] at hj ⊢
        rw [List.getElem?_eq_getElem hjl] at hj ⊢
        simp only [Option.map_some, Option.some.injEq] at hj ⊢
        rw [hj]
      have ej : (x.map itoaS).map (·.data.toList) = x.map Lib.itoa := by simp [itoaS]
      have eS : (⟨#[32]⟩ : ByteArray).data.toList = [32] := rfl
      have hlen : (Lib.join ((x.map itoaS).map (·.data.toList)) (⟨#[32]⟩ : ByteArray).data.toList).length ≤ 140737488355328 := by
        rw [ej, eS]; show (spJ x).length ≤ _; omega
      have eK : Lib.join ((x.map itoaS).map (·.data.toList)) (⟨#[32]⟩ : ByteArray).data.toList = spJ x := by rw [ej, eS]; rfl
      have hj := Tryz.strings_Join g 0 cl (x.map itoaS) ⟨#[32]⟩ wr hcells hgl (by simp; omega) (by simpa using h3) hlen
      rw [eK, List.length_map] at hj
      have HJ := Lib.hid hj
      clear hcells ej eS hlen eK hj ho
      go_wp2_with fail
      refine HJ.out.mono ?_
      rintro e w2 ⟨rfl, hb2⟩
      have hX2 : Ext w w2 := hX.trans hb2
      clear hb2
      go_wp2
      go_ret
      exact ⟨rfl, hX2⟩
end Go.Proofs.YtkbpchdncljlbaaGreatDoor
end
