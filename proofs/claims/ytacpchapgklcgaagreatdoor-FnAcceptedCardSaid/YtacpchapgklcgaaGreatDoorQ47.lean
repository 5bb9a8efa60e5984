/- The walk of the law on whatever proof is accepted.
Whatever proof is accepted, the machine does not halt: the law on drawn machines answers true for all bytes, and leaves its arguments as they are. The listed tables of the library hold what the program's text lays in them. -/
import Derived.Test.YtacpchapgklcgaaGreatDoorQ45
import Derived.Test.YtacpchapgklcgaaGreatDoorQ32
import Derived.Test.YtacpchapgklcgaaGreatDoorQ08
import Derived.Test.YtacpchapgklcgaaGreatDoorQ46
import Derived.Test.YtacpchapgklcgaaGreatDoorQ09
import Derived.Test.YtacpchapgklcgaaGreatDoorCards
section
set_option linter.unusedSimpArgs false
set_option linter.unusedVariables false
namespace Go.Proofs.YtacpchapgklcgaaGreatDoor
open Go Go.RowKit Go.Proofs
set_option maxHeartbeats 400000
theorem rowsNone (w : World) : IntRows w (.slice none 0 0) [] := ⟨[], ⟨none, 0, rfl, Nat.le_refl _, by omega, rfl, fun h => absurd h (by simp)⟩, fun i h => absurd h (by simp)⟩
theorem own_rules2 {w : World} (base : Nat) (hb : base ≤ w.heap.size) : OwnRules base (w.alloc (.cells #[.int .i64 0, .int .i64 1, .int .i64 0, .int .i64 0, .int .i64 1, .int .i64 0] 38)) (.slice (some ⟨w.heap.size, 0, none⟩) 2 2) rightM.rules :=
  ⟨by simp [rvs], .inr ⟨w.heap.size, 2, #[.int .i64 0, .int .i64 1, .int .i64 0, .int .i64 0, .int .i64 1, .int .i64 0], rfl, hb, heap_alloc_new w _, by simp, by unfold maxLen; omega, rfl, by simp [rvs]⟩⟩
theorem own_two {w : World} (x y : Int) (base : Nat) (hb : base ≤ w.heap.size) : OwnInts base (w.alloc (.cells #[.int .i64 x, .int .i64 y] 2)) (.slice (some ⟨w.heap.size, 0, none⟩) 2 2) [x, y] :=
  ⟨by simp [ivs], .inr ⟨w.heap.size, 2, #[.int .i64 x, .int .i64 y], rfl, hb, heap_alloc_new w _, by simp, by unfold maxLen; omega, rfl, by simp [ivs]⟩⟩
set_option maxRecDepth 20000 in
set_option maxHeartbeats 4000000 in
theorem law21_c (v v' : Value) (bs bs' : List Int) (w : World) (h : Bytes w v bs) (h' : Bytes w v' bs') (hT : Tab w) :
    Calls Tryz.prog 3 #[v, v'] w fun e w' => e = .returned (.bool true) ∧ Ext w w' := by
  obtain ⟨A, c, rfl, _, _, _⟩ := h.1.form
  obtain ⟨A', c', rfl, _, _, _⟩ := h'.1.form
  go_enter Tryz.func3, Tryz.ntmps3
  go_wp2_with fail
  refine (b10Long_c _ bs w h).mono ?_
  rintro e w' ⟨rfl, rfl⟩
  by_cases l1 : 1048576 < bs.length
  · rw [decide_eq_true l1]
    go_wp2
    go_ret
    exact ⟨rfl, Ext.refl _⟩
  rw [decide_eq_false l1]
  go_wp2_with fail
  refine (b10Long_c _ bs' w h').mono ?_
  rintro e w' ⟨rfl, rfl⟩
  by_cases l2 : 1048576 < bs'.length
  · rw [decide_eq_true l2]
    go_wp2
    go_ret
    exact ⟨rfl, Ext.refl _⟩
  rw [decide_eq_false l2]
  go_wp2_with fail
  refine (B10Decided_v _ bs w h).mono ?_
  rintro e w1 ⟨⟨m, rv, rfl, ho1, hm, hm2, hm4⟩, hx1⟩
  clear hm2 hm4
  obtain ⟨Ar, cr, rfl, _, _, _⟩ := (ownsRow_row ho1).form
  obtain ⟨W, hW⟩ : ∃ W, w1.alloc (.cells #[.int .i64 m.sy, .int .i64 m.st, .slice Ar m.rules.length cr] 26) = W := ⟨_, rfl⟩
  have hXW : Ext w1 W := by rw [← hW]; exact Ext.alloc _ _
  have bM : Blk W w1.heap.size 26 #[.int .i64 m.sy, .int .i64 m.st, .slice Ar m.rules.length cr] := by rw [← hW]; exact Blk.new _ _ _ _ rfl
  have hX := hx1.trans hXW
  have hMr : Rules W (.slice Ar m.rules.length cr) m.rules := OwnRules.rules (OwnRules.ext ho1 hXW)
  have c0 := bM.cell 0
  have c1 := bM.cell 1
  have c2 := bM.cell 2
  simp only [List.getElem?_toArray, List.getElem?_cons_zero, List.getElem?_cons_succ] at c0 c1 c2
  rw [← hW] at c0 c1 c2
  have HW := Lib.hid hW
  clear hW
  go_wp2_with fail
  rw [HW.out] at c0 c1 c2 ⊢
  clear HW
  refine (RunMachine0_c (.agg #[.int .i64 m.sy, .int .i64 m.st, .slice Ar m.rules.length cr]) m 400 W ⟨_, rfl, hMr⟩ hm (by omega) (by omega)).mono ?_
  rintro e w2 ⟨q9, A9, n9, k9, B9, m9, l9, r9, h9, c9, rfl, himp, hx2⟩
  obtain ⟨W2, hW2⟩ : ∃ W2, W2 = w2.alloc (.cells #[.int .i64 q9, .slice A9 n9 k9, .slice B9 m9 l9] 30) := ⟨_, rfl⟩
  have hXW2 : Ext w2 W2 := by rw [hW2]; exact Ext.alloc _ _
  have hX2 := hX.trans (hx2.trans hXW2)
  clear c0 c1 c2
  by_cases q : ¬ (c9 = 0 ∧ h9 = true)
  · by_cases q1 : c9 = 0
    · subst q1
      obtain rfl : h9 = false := by simpa using q
      go_wp2
      go_ret
      exact ⟨rfl, by rw [← hW2]; exact hX2⟩
    · have Q1 : (c9 != 0) = true := by simp [q1]
      clear himp q
      go_wp2
      go_ret
      exact ⟨rfl, by rw [← hW2]; exact hX2⟩
  obtain ⟨rfl, rfl⟩ := Decidable.not_not.1 q
  obtain ⟨T, hh1, hh2⟩ := himp rfl rfl
  have HH := Lib.hid (haltsAt_ref hh1 hh2)
  have hMr2 := hMr.ext (hx2.trans hXW2)
  have bM2 := bM.ext (hx2.trans hXW2)
  have hT2 : Tab W2 := hT.below hT.low hX2
  clear himp hh1 hh2 q
  have HM := Lib.hid hm
  go_wp2_with fail
  rw [← hW2]
  clear hW2
  go_loopw [10] (fun i wr => ∃ k : Nat, k ≤ 8 ∧ i = .int .i64 k ∧ Ext W2 wr) (fun i _ => 8 - (intOf i).toNat)
  case atStart => exact ⟨0, Nat.zero_le _, rfl, Ext.refl _⟩
  case round =>
    obtain ⟨k, hk, rfl, hx⟩ := hrel
    have bM3 := bM2.ext hx
    have hr3 := hMr2.ext hx
    have hT3 := hT2.below hT2.low hx
    have c0 := bM3.cell 0
    have c1 := bM3.cell 1
    have c2 := bM3.cell 2
    simp only [List.getElem?_toArray, List.getElem?_cons_zero, List.getElem?_cons_succ] at c0 c1 c2
    by_cases hlt : k < 8
    · have hlt' : (k : Int) < 8 := by omega
      go_wp2_with fail
      have e5 := Ext.alloc wr (.cells #[.int .i64 (k : Int)] 2)
      refine (CheckBackward_c _ _ m ⟨4, [(k : Int)], []⟩ _ ⟨_, rfl, hr3.ext e5⟩ ⟨_, _, rfl, (own_oneD (k : Int) 0 (Nat.zero_le _)).ints, rowsNone _⟩ (hT3.below hT3.low e5)).mono ?_
      rintro e w5 ⟨r, rfl, hrr, hx5⟩
      have hx6 := hx.trans (e5.trans hx5)
      have hr5 := hMr2.ext hx6
      have hT5 := hT2.below hT2.low hx6
      obtain rfl : r = false := by
        cases r
        · rfl
        · exact absurd HH.out ((hrr.1 rfl).sound T)
      have bM5 := bM2.ext hx6
      clear hrr c0 c1 c2
      have c0 := bM5.cell 0
      have c1 := bM5.cell 1
      have c2 := bM5.cell 2
      simp only [List.getElem?_toArray, List.getElem?_cons_zero, List.getElem?_cons_succ] at c0 c1 c2
      go_wp2_with fail
      have e7 := Ext.alloc w5 (.cells #[.int .i64 (k : Int)] 2)
      refine (CheckSegment_c _ _ m ⟨5, [(k : Int)], []⟩ _ ⟨_, rfl, hr5.ext e7⟩ ⟨_, _, rfl, (own_oneD (k : Int) 0 (Nat.zero_le _)).ints, rowsNone _⟩ (hT5.below hT5.low e7)).mono ?_
      rintro e w8 ⟨⟨r, rfl, hrr⟩, hx8⟩
      have hx9 := Lib.hid (hx6.trans (e7.trans hx8))
      obtain rfl : r = false := by
        cases r
        · rfl
        · exact absurd HH.out (chk_sound hrr T)
      clear hrr c0 c1 c2
      go_wp2
      go_roundw
      case rel => exact ⟨k + 1, by omega, by go_num, hx9.out⟩
      case measure => simp [intOf]; omega
    · have hge : ¬ (k : Int) < 8 := by omega
      clear c0 c1 c2 hge
      have hge : ¬ (k : Int) < 8 := by omega
      have hge2 : decide (k < 8) = false := by simp [hlt]
      have oR : OwnRules 0 (wr.alloc (.cells #[.int .i64 0, .int .i64 1, .int .i64 0, .int .i64 0, .int .i64 1, .int .i64 0] 38)) (.slice (some ⟨wr.heap.size, 0, none⟩) 2 2) rightM.rules := own_rules2 0 (Nat.zero_le _)
      obtain ⟨V1, hV1⟩ : ∃ V, wr.alloc (.cells #[.int .i64 0, .int .i64 1, .int .i64 0, .int .i64 0, .int .i64 1, .int .i64 0] 38) = V := ⟨_, rfl⟩
      have z1 : V1.heap.size = wr.heap.size + 1 := by rw [← hV1]; simp
      have x1 : Ext wr V1 := by rw [← hV1]; exact Ext.alloc _ _
      rw [hV1] at oR
      obtain ⟨V2, hV2⟩ : ∃ V, V1.alloc (.cells #[.int .i64 2, .int .i64 1, .slice (some ⟨wr.heap.size, 0, none⟩) 2 2] 26) = V := ⟨_, rfl⟩
      have z2 : V2.heap.size = wr.heap.size + 1 + 1 := by rw [← hV2]; simp; omega
      have x2 : Ext V1 V2 := by rw [← hV2]; exact Ext.alloc _ _
      have bK : Blk V2 (wr.heap.size + 1) 26 #[.int .i64 2, .int .i64 1, .slice (some ⟨wr.heap.size, 0, none⟩) 2 2] := by rw [← hV2]; exact Blk.new _ _ _ _ z1
      have oI : OwnInts 0 (V2.alloc (.cells #[.int .i64 0, .int .i64 0] 2)) (.slice (some ⟨V2.heap.size, 0, none⟩) 2 2) oneD.nx := own_two 0 0 0 (Nat.zero_le _)
      rw [z2] at oI
      obtain ⟨V3, hV3⟩ : ∃ V, V2.alloc (.cells #[.int .i64 0, .int .i64 0] 2) = V := ⟨_, rfl⟩
      have z3 : V3.heap.size = wr.heap.size + 1 + 1 + 1 := by rw [← hV3]; simp; omega
      have x3 : Ext V2 V3 := by rw [← hV3]; exact Ext.alloc _ _
      rw [hV3] at oI
      obtain ⟨V4, hV4⟩ : ∃ V, V3.alloc (.cells #[.int .i64 1, .slice (some ⟨wr.heap.size + 1 + 1, 0, none⟩) 2 2] 40) = V := ⟨_, rfl⟩
      have x4 : Ext V3 V4 := by rw [← hV4]; exact Ext.alloc _ _
      have z4 : V4.heap.size = wr.heap.size + 1 + 1 + 1 + 1 := by rw [← hV4]; simp; omega
      have bD : Blk V4 (wr.heap.size + 1 + 1 + 1) 40 #[.int .i64 1, .slice (some ⟨wr.heap.size + 1 + 1, 0, none⟩) 2 2] := by rw [← hV4]; exact Blk.new _ _ _ _ z3
      have hRK := ((OwnRules.rules oR).ext x2).ext (x3.trans x4)
      have hIK := (oI.ints).ext x4
      have bK4 := bK.ext (x3.trans x4)
      have hx4 := hx.trans (x1.trans (x2.trans (x3.trans x4)))
      have hT4 := hT2.below hT2.low hx4
      have c0 := bK4.cell 0
      have c1 := bK4.cell 1
      have c2 := bK4.cell 2
      have d0 := bD.cell 0
      have d1 := bD.cell 1
      simp only [List.getElem?_toArray, List.getElem?_cons_zero, List.getElem?_cons_succ] at c0 c1 c2 d0 d1
      have HV : Hid ((((wr.alloc (.cells #[.int .i64 0, .int .i64 1, .int .i64 0, .int .i64 0, .int .i64 1, .int .i64 0] 38)).alloc (.cells #[.int .i64 2, .int .i64 1, .slice (some ⟨wr.heap.size, 0, none⟩) 2 2] 26)).alloc (.cells #[.int .i64 0, .int .i64 0] 2)).alloc (.cells #[.int .i64 1, .slice (some ⟨wr.heap.size + 1 + 1, 0, none⟩) 2 2] 40) = V4) := by unfold Hid; rw [hV1, hV2, hV3, hV4]
      have e5 := Ext.alloc V4 (.cells #[.int .i64 0] 2)
      have hcb : Calls Tryz.prog 8 #[.agg #[.int .i64 2, .int .i64 1, .slice (some ⟨wr.heap.size, 0, none⟩) 2 2], .agg #[.int .i64 4, .slice (some ⟨V4.heap.size, 0, none⟩) 1 1, .slice none 0 0]] (V4.alloc (.cells #[.int .i64 0] 2)) (CbRes (V4.alloc (.cells #[.int .i64 0] 2)) rightM ⟨4, [0], []⟩) := by
        have hm0 : Mach (V4.alloc (.cells #[.int .i64 0] 2)) (.agg #[.int .i64 2, .int .i64 1, .slice (some ⟨wr.heap.size, 0, none⟩) 2 2]) rightM := ⟨_, rfl, hRK.ext e5⟩
        have hp0 : Prf (V4.alloc (.cells #[.int .i64 0] 2)) (.agg #[.int .i64 4, .slice (some ⟨V4.heap.size, 0, none⟩) 1 1, .slice none 0 0]) ⟨4, [0], []⟩ := ⟨_, _, rfl, (own_oneD 0 0 (Nat.zero_le _)).ints, rowsNone _⟩
        exact CheckBackward_c _ _ _ _ _ hm0 hp0 (hT4.below hT4.low e5)
      rw [z4] at hcb
      rw [← HV.out] at c0 c1 c2
      clear hV1 hV2 hV3 hV4 z1 z2 z3 z4 x1 x2 x3 x4 bK oR oI bM3 hr3 hT3
      go_wp2_with fail
      rw [HV.out] at c0 c1 c2 ⊢
      clear HV
      refine hcb.mono ?_
      rintro e w5 ⟨r, rfl, hrr, hx5⟩
      obtain rfl : r = true := hrr.2 right_back
      have hx6 := e5.trans hx5
      have c0 := hx6.cell c0
      have c1 := hx6.cell c1
      have c2 := hx6.cell c2
      have hT6 := hT4.below hT4.low hx6
      clear hrr
      go_wp2_with fail
      have e7 := hx6.trans (Ext.alloc w5 (.cells #[.int .i64 1] 2))
      refine (CheckSegment_c _ _ rightM ⟨5, [1], []⟩ _ ⟨_, rfl, hRK.ext e7⟩ ⟨_, _, rfl, (own_oneD 1 0 (Nat.zero_le _)).ints, rowsNone _⟩ (hT4.below hT4.low e7)).mono ?_
      rintro e w8 ⟨⟨r, rfl, hrr⟩, hx8⟩
      obtain rfl : r = true := right_seg hrr
      have hx9 := e7.trans hx8
      have bK9 := bK4.ext hx9
      have bD9 := bD.ext hx9
      clear hrr c0 c1 c2 d0 d1
      have c0 := bK9.cell 0
      have c1 := bK9.cell 1
      have c2 := bK9.cell 2
      have d0 := bD9.cell 0
      have d1 := bD9.cell 1
      simp only [List.getElem?_toArray, List.getElem?_cons_zero, List.getElem?_cons_succ] at c0 c1 c2 d0 d1
      go_wp2_with fail
      refine (AvoidsHalting_c rightM oneD oneD _ _ _ w8 (hRK.ext hx9) (hIK.ext hx9) (hIK.ext hx9) right_ok).mono ?_
      rintro e w10 ⟨r, rfl, hrr, hx10⟩
      obtain rfl : r = true := hrr.2 right_auto
      have hx11 := hX2.trans (hx4.trans (hx9.trans hx10))
      have bM11 := bM2.ext (hx4.trans (hx9.trans hx10))
      have hr11 := hMr2.ext (hx4.trans (hx9.trans hx10))
      clear hrr c0 c1 c2 d0 d1
      go_wp2_with fail
      refine (B10Dfa_c _ bs' w10 (h'.ext hx11)).mono ?_
      rintro e w12 ⟨⟨L, lv, sy, rfl, hoL, L0, L20, Ln⟩, hx12⟩
      obtain ⟨Al, cl, rfl, _, _⟩ := hoL.ints.form
      obtain ⟨W3, hW3⟩ : ∃ W', w12.alloc (.cells #[.int .i64 L.st, .slice Al L.nx.length cl] 40) = W' := ⟨_, rfl⟩
      have hXW3 : Ext w12 W3 := by rw [← hW3]; exact Ext.alloc _ _
      have bL : Blk W3 w12.heap.size 40 #[.int .i64 L.st, .slice Al L.nx.length cl] := by rw [← hW3]; exact Blk.new _ _ _ _ rfl
      have hX13 := hx11.trans (hx12.trans hXW3)
      go_wp2_with fail
      try rw [hW3]
      clear hW3
      refine (B10Dfa_c _ bs W3 (h.ext hX13)).mono ?_
      rintro e w14 ⟨⟨R, tv, sy', rfl, hoR, R0, R20, Rn⟩, hx14⟩
      obtain ⟨At, ct, rfl, _, _⟩ := hoR.ints.form
      obtain ⟨W4, hW4⟩ : ∃ W', w14.alloc (.cells #[.int .i64 R.st, .slice At R.nx.length ct] 40) = W' := ⟨_, rfl⟩
      have hXW4 : Ext w14 W4 := by rw [← hW4]; exact Ext.alloc _ _
      have bR : Blk W4 w14.heap.size 40 #[.int .i64 R.st, .slice At R.nx.length ct] := by rw [← hW4]; exact Blk.new _ _ _ _ rfl
      have hy := hx14.trans hXW4
      have hX15 := hX13.trans hy
      have hiL := (hoL.ext (hXW3.trans hy)).ints
      have hiR := (hoR.ext hXW4).ints
      have hr15 := hr11.ext (hx12.trans (hXW3.trans hy))
      have bM15 := bM11.ext (hx12.trans (hXW3.trans hy))
      have bL15 := bL.ext hy
      have c0 := bM15.cell 0
      have c1 := bM15.cell 1
      have c2 := bM15.cell 2
      have d0 := bL15.cell 0
      have d1 := bL15.cell 1
      have g0 := bR.cell 0
      have g1 := bR.cell 1
      simp only [List.getElem?_toArray, List.getElem?_cons_zero, List.getElem?_cons_succ] at c0 c1 c2 d0 d1 g0 g1
      rw [← hW4] at c0 c1 c2 d0 d1 g0 g1
      have HW4 := Lib.hid hW4
      clear hW4
      go_wp2_with fail
      rw [HW4.out] at c0 c1 c2 d0 d1 g0 g1
      try rw [HW4.out]
      clear HW4
      refine (AvoidsHalting_c m L R _ _ _ W4 hr15 hiL hiR HM.out).mono ?_
      rintro e w16 ⟨r, rfl, hrr, hx16⟩
      obtain rfl : r = false := by
        cases r
        · rfl
        · exact absurd HH.out ((hrr.1 rfl).sound HM.out T)
      have hX17 := hX15.trans hx16
      clear hrr c0 c1 c2 d0 d1 g0 g1
      go_wp2
      go_ret
      exact ⟨rfl, hX17⟩
end Go.Proofs.YtacpchapgklcgaaGreatDoor
end
section
namespace Go.Proofs.YtacpchapgklcgaaGreatDoor
open Go Go.RowKit Go.ChangeShapes Go.WideShapes Go.ChangeAt
set_option maxRecDepth 100000 in
theorem lifted21 (os : Os) (started : os.Started) (H : Type) (enc : TypeId × Value → H) :
    ReturnsInHanded {} Tryz.checked os 3 .any (fun w args => (Rows.fnAcceptedSpec.pre enc Tryz.prog Tryz.f3 [] false w args ∧ laidMetH Tryz.prog laid3 w) ∧ sizedMet enc Tryz.prog Tryz.f3 (OpenSpec.ofChange Rows.fnAcceptedSpec) false w args)
      (Rows.fnAcceptedSpec.post enc Tryz.prog Tryz.f3 false true false false) := by
  refine law_lift (C := Tryz.checked) (X := fun w _ => laidMetH Tryz.prog laid3 w) (tb := 4) (fun _ _ _ hh h => h.of_heap hh) ownKn started (by kernel_rfl) Tryz.func3
    (ChangeSpec.witness_shaped (enc := enc) (C := Tryz.checked) (os := os) (X := fun w _ => laidMetH Tryz.prog laid3 w) false (World.doorLaid Tryz.prog 24 os) #[.slice none 0 0, .slice none 0 0] 8 rfl (World.shaped_of_RefB (by kernel_rfl) (by kernel_rfl)) (by kernel_rfl) (by kernel_rfl) (by kernel_rfl) (door_met os _))
    laidOutP (by kernel_rfl) (by kernel_rfl) Tryz.underlying4 rfl
    (fun ds hd => by
      match ds, hd.trans (show Tryz.f3.params.size = 2 by kernel_rfl) with
      | [d0, d1], _ => rfl) ?_
  intro W base args ds p hval hA hL
  rw [Tryz.params3] at hA hval
  obtain ⟨v0, v1, d0, d1, p0, p1, rfl, rfl, rfl, h0, h1⟩ := trodAll_two hA
  obtain ⟨bs, hb⟩ := open_bytesT (hval 0 _ v0 rfl rfl) h0
  obtain ⟨bs', hb'⟩ := open_bytesT (hval 1 _ v1 rfl rfl) h1
  exact law21_c v0 v1 bs bs' W hb hb' (tab_of_laid hL)
theorem row21 : Rows.FnAcceptedSaid :=
  OpenClaim.holds_of_wide 3 Tryz.f3 rfl rfl rfl rfl rfl rfl rfl ⟨rfl, rfl, rfl, rfl, rfl⟩ rfl rfl rfl rfl rfl (by kernel_rfl) Tryz.func3 (by kernel_rfl)
    (of_decide_eq_true (by kernel_rfl)) (by unfold Func.isWrapper; first | (rw [if_pos (by decide +kernel)]; kernel_rfl) | (rw [if_neg (by decide +kernel)]; exact ⟨rfl, rfl⟩))
    (fun os started H enc _ => lifted21 os started H enc)
theorem accepted_holds : Rows.FnAcceptedCardSaid :=
  Claim7.holds_tied_plain_at .later [] Rows.fnAcceptedCard.laidKinds true Rows.fnAcceptedCard.stood.harness Rows.fnAcceptedCard.stood.looks
    row21 (fun _ h => by cases h) (by kernel_rfl) (fun _ h => by cases h) fnAccepted_row_tie rfl ⟨rfl, rfl⟩ (by kernel_rfl) rfl
    (fun f fn hf hfn => by
      obtain rfl : f = 3 := Option.some.inj ((show Tryz.prog.funcNamed "loop.example/g01079/laws.FnAccepted" = some 3 by kernel_rfl).symm.trans hf) |>.symm
      obtain rfl : fn = Tryz.f3 := (Option.some.inj (Tryz.func3.symm.trans hfn)).symm
      exact ⟨by kernel_rfl, fun j t ht => by
        rw [Tryz.params3] at ht
        have hm : t ∈ [22, 22] := by simpa using Array.mem_of_getElem? ht
        have hall : ([22, 22].all fun u => !Tryz.prog.wantsStandIn u) = true := by kernel_rfl
        exact (show Tryz.prog.wantsStandIn t = false by simpa using List.all_eq_true.1 hall t hm)⟩)
    (by kernel_rfl)
#print axioms accepted_holds
end Go.Proofs.YtacpchapgklcgaaGreatDoor
end
