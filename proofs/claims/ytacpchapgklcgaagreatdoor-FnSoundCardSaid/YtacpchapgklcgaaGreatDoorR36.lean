/- The walk of the law on proofs that are found.
A proof that is found is accepted, and then the machine does not halt: the law on drawn machines answers true for all bytes, and leaves its argument as it is. The listed tables of the library hold what the program's text lays in them. -/
import Derived.Test.YtacpchapgklcgaaGreatDoorR35
import Derived.Test.YtacpchapgklcgaaGreatDoorR15
import Derived.Test.YtacpchapgklcgaaGreatDoorR06
import Derived.Test.YtacpchapgklcgaaGreatDoorR25
import Derived.Test.YtacpchapgklcgaaGreatDoorR05
import Derived.Test.YtacpchapgklcgaaGreatDoorCards
section
set_option linter.unusedSimpArgs false
set_option linter.unusedVariables false
namespace Go.Proofs.YtacpchapgklcgaaGreatDoor
open Go Go.RowKit Go.Proofs
set_option maxHeartbeats 400000
set_option maxRecDepth 20000 in
set_option maxHeartbeats 4000000 in
theorem law22_c (v : Value) (bs : List Int) (w : World) (h : Bytes w v bs) (hT : Tab w) :
    Calls Tryz.prog 4 #[v] w fun e w' => e = .returned (.bool true) ∧ Ext w w' := by
  obtain ⟨A, c, rfl, _, _, _⟩ := h.1.form
  go_enter Tryz.func4, Tryz.ntmps4
  go_wp2_with fail
  refine (b10Long_c _ bs w h).mono ?_
  rintro e w' ⟨rfl, rfl⟩
  by_cases l1 : 1048576 < bs.length
  · rw [decide_eq_true l1]
    go_wp2
    go_ret
    exact ⟨rfl, Ext.refl _⟩
  rw [decide_eq_false l1]
  go_wp2_with fail
  refine (B10Decided_v _ bs w h).mono ?_
  rintro e w1 ⟨⟨m, rv, rfl, ho1, hm, hm2, hm4⟩, hx1⟩
  have HM2 := Lib.hid hm2
  clear hm2 hm4
  obtain ⟨Ar, cr, rfl, _, _, _⟩ := (ownsRow_row ho1).form
  obtain ⟨W, hW⟩ : ∃ W, w1.alloc (.cells #[.int .i64 m.sy, .int .i64 m.st, .slice Ar m.rules.length cr] 26) = W := ⟨_, rfl⟩
  have hXW : Ext w1 W := by rw [← hW]; exact Ext.alloc _ _
  have bM : Blk W w1.heap.size 26 #[.int .i64 m.sy, .int .i64 m.st, .slice Ar m.rules.length cr] := by rw [← hW]; exact Blk.new _ _ _ _ rfl
  have hX := hx1.trans hXW
  have hMr : Rules W (.slice Ar m.rules.length cr) m.rules := OwnRules.rules (OwnRules.ext ho1 hXW)
  have c0 := bM.cell 0
  have c1 := bM.cell 1
  have c2 := bM.cell 2
  simp only [List.getElem?_toArray, List.getElem?_cons_zero, List.getElem?_cons_succ] at c0 c1 c2
  rw [← hW] at c0 c1 c2
  have HW := Lib.hid hW
  clear hW
  go_wp2_with fail
  rw [HW.out] at c0 c1 c2 ⊢
  clear HW
  refine (RunMachine0_c (.agg #[.int .i64 m.sy, .int .i64 m.st, .slice Ar m.rules.length cr]) m 400 W ⟨_, rfl, hMr⟩ hm (by omega) (by omega)).mono ?_
  rintro e w2 ⟨q9, A9, n9, k9, B9, m9, l9, r9, h9, c9, rfl, himp, hx2⟩
  obtain ⟨W2, hW2⟩ : ∃ W2, w2.alloc (.cells #[.int .i64 q9, .slice A9 n9 k9, .slice B9 m9 l9] 30) = W2 := ⟨_, rfl⟩
  have hXW2 : Ext w2 W2 := by rw [← hW2]; exact Ext.alloc _ _
  have hX2 := hX.trans (hx2.trans hXW2)
  clear c0 c1 c2
  by_cases q : c9 = 0
  rotate_left
  · have Q1 : (c9 != 0) = true := by simp [q]
    clear himp q
    go_wp2
    go_ret
    exact ⟨rfl, hX2⟩
  subst q
  have hh : h9 = true → ∃ T, HaltsAt m T := fun hc => by
    obtain ⟨T, hh1, hh2⟩ := himp rfl hc
    exact ⟨T, haltsAt_ref hh1 hh2⟩
  clear himp
  have hMr2 := hMr.ext (hx2.trans hXW2)
  have bM2 := bM.ext (hx2.trans hXW2)
  have hT2 : Tab W2 := hT.below hT.low hX2
  have HH := Lib.hid hh
  clear hh
  have c0 := bM2.cell 0
  have c1 := bM2.cell 1
  have c2 := bM2.cell 2
  simp only [List.getElem?_toArray, List.getElem?_cons_zero, List.getElem?_cons_succ] at c0 c1 c2
  go_wp2_with fail
  refine (backSum _ m _ h9 hMr2 hm hT2 HH.out).mono ?_
  rintro e w3 ⟨hx3, k3, A3, n3, q3, c3, rfl, i3, F3⟩
  obtain ⟨W4, hW4⟩ : ∃ V, w3.alloc (.cells #[.int .i64 k3, .slice A3 n3 q3, .slice none 0 0] 36) = V := ⟨_, rfl⟩
  have hXW4 : Ext w3 W4 := by rw [← hW4]; exact Ext.alloc _ _
  have bP4 : Blk W4 w3.heap.size 36 #[.int .i64 k3, .slice A3 n3 q3, .slice none 0 0] := by rw [← hW4]; exact Blk.new _ _ _ _ rfl
  have hy4 := hx3.trans hXW4
  clear c0 c1 c2
  have c0 := (bM2.ext hy4).cell 0
  have c1 := (bM2.ext hy4).cell 1
  have c2 := (bM2.ext hy4).cell 2
  simp only [List.getElem?_toArray, List.getElem?_cons_zero, List.getElem?_cons_succ] at c0 c1 c2
  rw [← hW4] at c0 c1 c2
  have HW4 := Lib.hid hW4
  clear hW4
  have hX4 := hX2.trans hy4
  have hT4 := hT.below hT.low hX4
  go_wp2_with fail
  rw [HW4.out]
  refine (segSum _ m _ h9 (hMr2.ext hy4) hm hT4 HH.out).mono ?_
  rintro e w5 ⟨hx5, k5, A5, n5, q5, c5, rfl, i5, F5⟩
  obtain ⟨W6, hW6⟩ : ∃ V, w5.alloc (.cells #[.int .i64 k5, .slice A5 n5 q5, .slice none 0 0] 36) = V := ⟨_, rfl⟩
  have hXW6 : Ext w5 W6 := by rw [← hW6]; exact Ext.alloc _ _
  have bP6 : Blk W6 w5.heap.size 36 #[.int .i64 k5, .slice A5 n5 q5, .slice none 0 0] := by rw [← hW6]; exact Blk.new _ _ _ _ rfl
  have hy6 := hx5.trans hXW6
  clear c0 c1 c2
  have hz6 := hy4.trans hy6
  have c0 := (bM2.ext hz6).cell 0
  have c1 := (bM2.ext hz6).cell 1
  have c2 := (bM2.ext hz6).cell 2
  simp only [List.getElem?_toArray, List.getElem?_cons_zero, List.getElem?_cons_succ] at c0 c1 c2
  rw [← hW6] at c0 c1 c2
  have HW6 := Lib.hid hW6
  clear hW6
  have hX6 := hX2.trans hz6
  go_wp2_with fail
  rw [HW6.out]
  refine (autSum _ m _ h9 (hMr2.ext hz6) hm HM2.out HH.out).mono ?_
  rintro e w7 ⟨hx7, k7, A7, n7, q7, c7, rfl, i7, F7⟩
  obtain ⟨W8, hW8⟩ : ∃ V, w7.alloc (.cells #[.int .i64 k7, .slice A7 n7 q7, .slice none 0 0] 36) = V := ⟨_, rfl⟩
  have hXW8 : Ext w7 W8 := by rw [← hW8]; exact Ext.alloc _ _
  have bP8 : Blk W8 w7.heap.size 36 #[.int .i64 k7, .slice A7 n7 q7, .slice none 0 0] := by rw [← hW8]; exact Blk.new _ _ _ _ rfl
  have hy8 := hx7.trans hXW8
  clear c0 c1 c2
  have hz8 := hz6.trans hy8
  have bM8 := bM2.ext hz8
  have bA8 := bP4.ext (hy6.trans hy8)
  have bB8 := bP6.ext hy8
  have hX8 := hX2.trans hz8
  have G3 : (c3 = 0 ∧ h9 = false ∧ Passes 8 (.agg #[.int .i64 m.sy, .int .i64 m.st, .slice Ar m.rules.length cr]) (.agg #[.int .i64 k3, .slice A3 n3 q3, .slice none 0 0]) W8) ∨ (c3 == 0) = false := F3.imp (fun h => ⟨h.1, h.2.1, h.2.2.ext (hXW4.trans (hy6.trans hy8))⟩) id
  have G5 : (c5 = 0 ∧ h9 = false ∧ Passes 9 (.agg #[.int .i64 m.sy, .int .i64 m.st, .slice Ar m.rules.length cr]) (.agg #[.int .i64 k5, .slice A5 n5 q5, .slice none 0 0]) W8) ∨ (c5 == 0) = false := F5.imp (fun h => ⟨h.1, h.2.1, h.2.2.ext (hXW6.trans hy8)⟩) id
  have G7 : (c7 = 0 ∧ h9 = false ∧ Passes 15 (.agg #[.int .i64 m.sy, .int .i64 m.st, .slice Ar m.rules.length cr]) (.agg #[.int .i64 k7, .slice A7 n7 q7, .slice none 0 0]) W8) ∨ (c7 == 0) = false := F7.imp (fun h => ⟨h.1, h.2.1, h.2.2.ext hXW8⟩) id
  have HW8 := Lib.hid hW8
  clear F3 F5 F7 hW8
  rcases G3 with ⟨hc3, hq3, P3⟩ | e3
  · subst hc3
    subst hq3
    clear i3
    rcases G5 with ⟨hc5, hq5, P5⟩ | e5
    · subst hc5
      clear hq5
      clear i5
      rcases G7 with ⟨hc7, hq7, P7⟩ | e7
      · subst hc7
        clear hq7
        clear i7
        have c0 := (bM8).cell 0
        have c1 := (bM8).cell 1
        have c2 := (bM8).cell 2
        have d0 := (bA8).cell 0
        have d1 := (bA8).cell 1
        have d2 := (bA8).cell 2
        have f0 := (bB8).cell 0
        have f1 := (bB8).cell 1
        have f2 := (bB8).cell 2
        have g0 := (bP8).cell 0
        have g1 := (bP8).cell 1
        have g2 := (bP8).cell 2
        simp only [List.getElem?_toArray, List.getElem?_cons_zero, List.getElem?_cons_succ] at c0 c1 c2 d0 d1 d2 f0 f1 f2 g0 g1 g2
        rw [← HW8.out] at c0 c1 c2 d0 d1 d2 f0 f1 f2 g0 g1 g2
        go_wp2_with fail
        rw [HW8.out]
        refine (P3 W8 (Ext.refl _)).mono ?_
        rintro e v3 ⟨rfl, y3⟩
        have z3 := y3
        clear c0 c1 c2 d0 d1 d2 f0 f1 f2 g0 g1 g2
        have c0 := (bM8.ext z3).cell 0
        have c1 := (bM8.ext z3).cell 1
        have c2 := (bM8.ext z3).cell 2
        have d0 := (bA8.ext z3).cell 0
        have d1 := (bA8.ext z3).cell 1
        have d2 := (bA8.ext z3).cell 2
        have f0 := (bB8.ext z3).cell 0
        have f1 := (bB8.ext z3).cell 1
        have f2 := (bB8.ext z3).cell 2
        have g0 := (bP8.ext z3).cell 0
        have g1 := (bP8.ext z3).cell 1
        have g2 := (bP8.ext z3).cell 2
        simp only [List.getElem?_toArray, List.getElem?_cons_zero, List.getElem?_cons_succ] at c0 c1 c2 d0 d1 d2 f0 f1 f2 g0 g1 g2
        go_wp2_with fail
        refine (P5 v3 z3).mono ?_
        rintro e v5 ⟨rfl, y5⟩
        have z5 := z3.trans y5
        clear c0 c1 c2 d0 d1 d2 f0 f1 f2 g0 g1 g2
        have c0 := (bM8.ext z5).cell 0
        have c1 := (bM8.ext z5).cell 1
        have c2 := (bM8.ext z5).cell 2
        have d0 := (bA8.ext z5).cell 0
        have d1 := (bA8.ext z5).cell 1
        have d2 := (bA8.ext z5).cell 2
        have f0 := (bB8.ext z5).cell 0
        have f1 := (bB8.ext z5).cell 1
        have f2 := (bB8.ext z5).cell 2
        have g0 := (bP8.ext z5).cell 0
        have g1 := (bP8.ext z5).cell 1
        have g2 := (bP8.ext z5).cell 2
        simp only [List.getElem?_toArray, List.getElem?_cons_zero, List.getElem?_cons_succ] at c0 c1 c2 d0 d1 d2 f0 f1 f2 g0 g1 g2
        go_wp2_with fail
        refine (P7 v5 z5).mono ?_
        rintro e v7 ⟨rfl, y7⟩
        have z7 := z5.trans y7
        clear c0 c1 c2 d0 d1 d2 f0 f1 f2 g0 g1 g2
        go_wp2
        go_ret
        exact ⟨rfl, hX8.trans z7⟩
      · have c0 := (bM8).cell 0
        have c1 := (bM8).cell 1
        have c2 := (bM8).cell 2
        have d0 := (bA8).cell 0
        have d1 := (bA8).cell 1
        have d2 := (bA8).cell 2
        have f0 := (bB8).cell 0
        have f1 := (bB8).cell 1
        have f2 := (bB8).cell 2
        have g0 := (bP8).cell 0
        have g1 := (bP8).cell 1
        have g2 := (bP8).cell 2
        simp only [List.getElem?_toArray, List.getElem?_cons_zero, List.getElem?_cons_succ] at c0 c1 c2 d0 d1 d2 f0 f1 f2 g0 g1 g2
        rw [← HW8.out] at c0 c1 c2 d0 d1 d2 f0 f1 f2 g0 g1 g2
        go_wp2_with fail
        rw [HW8.out]
        refine (P3 W8 (Ext.refl _)).mono ?_
        rintro e v3 ⟨rfl, y3⟩
        have z3 := y3
        clear c0 c1 c2 d0 d1 d2 f0 f1 f2 g0 g1 g2
        have c0 := (bM8.ext z3).cell 0
        have c1 := (bM8.ext z3).cell 1
        have c2 := (bM8.ext z3).cell 2
        have d0 := (bA8.ext z3).cell 0
        have d1 := (bA8.ext z3).cell 1
        have d2 := (bA8.ext z3).cell 2
        have f0 := (bB8.ext z3).cell 0
        have f1 := (bB8.ext z3).cell 1
        have f2 := (bB8.ext z3).cell 2
        have g0 := (bP8.ext z3).cell 0
        have g1 := (bP8.ext z3).cell 1
        have g2 := (bP8.ext z3).cell 2
        simp only [List.getElem?_toArray, List.getElem?_cons_zero, List.getElem?_cons_succ] at c0 c1 c2 d0 d1 d2 f0 f1 f2 g0 g1 g2
        go_wp2_with fail
        refine (P5 v3 z3).mono ?_
        rintro e v5 ⟨rfl, y5⟩
        have z5 := z3.trans y5
        clear c0 c1 c2 d0 d1 d2 f0 f1 f2 g0 g1 g2
        go_wp2
        go_ret
        exact ⟨rfl, hX8.trans z5⟩
    · rcases G7 with ⟨hc7, hq7, P7⟩ | e7
      · subst hc7
        clear hq7
        clear i7
        have c0 := (bM8).cell 0
        have c1 := (bM8).cell 1
        have c2 := (bM8).cell 2
        have d0 := (bA8).cell 0
        have d1 := (bA8).cell 1
        have d2 := (bA8).cell 2
        have f0 := (bB8).cell 0
        have f1 := (bB8).cell 1
        have f2 := (bB8).cell 2
        have g0 := (bP8).cell 0
        have g1 := (bP8).cell 1
        have g2 := (bP8).cell 2
        simp only [List.getElem?_toArray, List.getElem?_cons_zero, List.getElem?_cons_succ] at c0 c1 c2 d0 d1 d2 f0 f1 f2 g0 g1 g2
        rw [← HW8.out] at c0 c1 c2 d0 d1 d2 f0 f1 f2 g0 g1 g2
        go_wp2_with fail
        rw [HW8.out]
        refine (P3 W8 (Ext.refl _)).mono ?_
        rintro e v3 ⟨rfl, y3⟩
        have z3 := y3
        clear c0 c1 c2 d0 d1 d2 f0 f1 f2 g0 g1 g2
        have c0 := (bM8.ext z3).cell 0
        have c1 := (bM8.ext z3).cell 1
        have c2 := (bM8.ext z3).cell 2
        have d0 := (bA8.ext z3).cell 0
        have d1 := (bA8.ext z3).cell 1
        have d2 := (bA8.ext z3).cell 2
        have f0 := (bB8.ext z3).cell 0
        have f1 := (bB8.ext z3).cell 1
        have f2 := (bB8.ext z3).cell 2
        have g0 := (bP8.ext z3).cell 0
        have g1 := (bP8.ext z3).cell 1
        have g2 := (bP8.ext z3).cell 2
        simp only [List.getElem?_toArray, List.getElem?_cons_zero, List.getElem?_cons_succ] at c0 c1 c2 d0 d1 d2 f0 f1 f2 g0 g1 g2
        go_wp2_with fail
        refine (P7 v3 z3).mono ?_
        rintro e v7 ⟨rfl, y7⟩
        have z7 := z3.trans y7
        clear c0 c1 c2 d0 d1 d2 f0 f1 f2 g0 g1 g2
        go_wp2
        go_ret
        exact ⟨rfl, hX8.trans z7⟩
      · have c0 := (bM8).cell 0
        have c1 := (bM8).cell 1
        have c2 := (bM8).cell 2
        have d0 := (bA8).cell 0
        have d1 := (bA8).cell 1
        have d2 := (bA8).cell 2
        have f0 := (bB8).cell 0
        have f1 := (bB8).cell 1
        have f2 := (bB8).cell 2
        have g0 := (bP8).cell 0
        have g1 := (bP8).cell 1
        have g2 := (bP8).cell 2
        simp only [List.getElem?_toArray, List.getElem?_cons_zero, List.getElem?_cons_succ] at c0 c1 c2 d0 d1 d2 f0 f1 f2 g0 g1 g2
        rw [← HW8.out] at c0 c1 c2 d0 d1 d2 f0 f1 f2 g0 g1 g2
        go_wp2_with fail
        rw [HW8.out]
        refine (P3 W8 (Ext.refl _)).mono ?_
        rintro e v3 ⟨rfl, y3⟩
        have z3 := y3
        clear c0 c1 c2 d0 d1 d2 f0 f1 f2 g0 g1 g2
        go_wp2
        go_ret
        exact ⟨rfl, hX8.trans z3⟩
  · rcases G5 with ⟨hc5, hq5, P5⟩ | e5
    · subst hc5
      subst hq5
      clear i5
      rcases G7 with ⟨hc7, hq7, P7⟩ | e7
      · subst hc7
        clear hq7
        clear i7
        have c0 := (bM8).cell 0
        have c1 := (bM8).cell 1
        have c2 := (bM8).cell 2
        have d0 := (bA8).cell 0
        have d1 := (bA8).cell 1
        have d2 := (bA8).cell 2
        have f0 := (bB8).cell 0
        have f1 := (bB8).cell 1
        have f2 := (bB8).cell 2
        have g0 := (bP8).cell 0
        have g1 := (bP8).cell 1
        have g2 := (bP8).cell 2
        simp only [List.getElem?_toArray, List.getElem?_cons_zero, List.getElem?_cons_succ] at c0 c1 c2 d0 d1 d2 f0 f1 f2 g0 g1 g2
        rw [← HW8.out] at c0 c1 c2 d0 d1 d2 f0 f1 f2 g0 g1 g2
        go_wp2_with fail
        rw [HW8.out]
        refine (P5 W8 (Ext.refl _)).mono ?_
        rintro e v5 ⟨rfl, y5⟩
        have z5 := y5
        clear c0 c1 c2 d0 d1 d2 f0 f1 f2 g0 g1 g2
        have c0 := (bM8.ext z5).cell 0
        have c1 := (bM8.ext z5).cell 1
        have c2 := (bM8.ext z5).cell 2
        have d0 := (bA8.ext z5).cell 0
        have d1 := (bA8.ext z5).cell 1
        have d2 := (bA8.ext z5).cell 2
        have f0 := (bB8.ext z5).cell 0
        have f1 := (bB8.ext z5).cell 1
        have f2 := (bB8.ext z5).cell 2
        have g0 := (bP8.ext z5).cell 0
        have g1 := (bP8.ext z5).cell 1
        have g2 := (bP8.ext z5).cell 2
        simp only [List.getElem?_toArray, List.getElem?_cons_zero, List.getElem?_cons_succ] at c0 c1 c2 d0 d1 d2 f0 f1 f2 g0 g1 g2
        go_wp2_with fail
        refine (P7 v5 z5).mono ?_
        rintro e v7 ⟨rfl, y7⟩
        have z7 := z5.trans y7
        clear c0 c1 c2 d0 d1 d2 f0 f1 f2 g0 g1 g2
        go_wp2
        go_ret
        exact ⟨rfl, hX8.trans z7⟩
      · have c0 := (bM8).cell 0
        have c1 := (bM8).cell 1
        have c2 := (bM8).cell 2
        have d0 := (bA8).cell 0
        have d1 := (bA8).cell 1
        have d2 := (bA8).cell 2
        have f0 := (bB8).cell 0
        have f1 := (bB8).cell 1
        have f2 := (bB8).cell 2
        have g0 := (bP8).cell 0
        have g1 := (bP8).cell 1
        have g2 := (bP8).cell 2
        simp only [List.getElem?_toArray, List.getElem?_cons_zero, List.getElem?_cons_succ] at c0 c1 c2 d0 d1 d2 f0 f1 f2 g0 g1 g2
        rw [← HW8.out] at c0 c1 c2 d0 d1 d2 f0 f1 f2 g0 g1 g2
        go_wp2_with fail
        rw [HW8.out]
        refine (P5 W8 (Ext.refl _)).mono ?_
        rintro e v5 ⟨rfl, y5⟩
        have z5 := y5
        clear c0 c1 c2 d0 d1 d2 f0 f1 f2 g0 g1 g2
        go_wp2
        go_ret
        exact ⟨rfl, hX8.trans z5⟩
    · rcases G7 with ⟨hc7, hq7, P7⟩ | e7
      · subst hc7
        subst hq7
        clear i7
        have c0 := (bM8).cell 0
        have c1 := (bM8).cell 1
        have c2 := (bM8).cell 2
        have d0 := (bA8).cell 0
        have d1 := (bA8).cell 1
        have d2 := (bA8).cell 2
        have f0 := (bB8).cell 0
        have f1 := (bB8).cell 1
        have f2 := (bB8).cell 2
        have g0 := (bP8).cell 0
        have g1 := (bP8).cell 1
        have g2 := (bP8).cell 2
        simp only [List.getElem?_toArray, List.getElem?_cons_zero, List.getElem?_cons_succ] at c0 c1 c2 d0 d1 d2 f0 f1 f2 g0 g1 g2
        rw [← HW8.out] at c0 c1 c2 d0 d1 d2 f0 f1 f2 g0 g1 g2
        go_wp2_with fail
        rw [HW8.out]
        refine (P7 W8 (Ext.refl _)).mono ?_
        rintro e v7 ⟨rfl, y7⟩
        have z7 := y7
        clear c0 c1 c2 d0 d1 d2 f0 f1 f2 g0 g1 g2
        go_wp2
        go_ret
        exact ⟨rfl, hX8.trans z7⟩
      · have c0 := (bM8).cell 0
        have c1 := (bM8).cell 1
        have c2 := (bM8).cell 2
        have d0 := (bA8).cell 0
        have d1 := (bA8).cell 1
        have d2 := (bA8).cell 2
        have f0 := (bB8).cell 0
        have f1 := (bB8).cell 1
        have f2 := (bB8).cell 2
        have g0 := (bP8).cell 0
        have g1 := (bP8).cell 1
        have g2 := (bP8).cell 2
        simp only [List.getElem?_toArray, List.getElem?_cons_zero, List.getElem?_cons_succ] at c0 c1 c2 d0 d1 d2 f0 f1 f2 g0 g1 g2
        rw [← HW8.out] at c0 c1 c2 d0 d1 d2 f0 f1 f2 g0 g1 g2
        have hE : Ext W8 W8 := Ext.refl _
        go_wp2
        rw [HW8.out]
        go_ret
        exact ⟨rfl, hX8⟩
end Go.Proofs.YtacpchapgklcgaaGreatDoor
end
section
namespace Go.Proofs.YtacpchapgklcgaaGreatDoor
open Go Go.RowKit Go.ChangeShapes Go.WideShapes Go.ChangeAt
set_option maxRecDepth 100000 in
theorem lifted22 (os : Os) (started : os.Started) (H : Type) (enc : TypeId × Value → H) :
    ReturnsInHanded {} Tryz.checked os 4 .any (fun w args => (Rows.fnSoundSpec.pre enc Tryz.prog Tryz.f4 [] false w args ∧ laidMetH Tryz.prog laid3 w) ∧ sizedMet enc Tryz.prog Tryz.f4 (OpenSpec.ofChange Rows.fnSoundSpec) false w args)
      (Rows.fnSoundSpec.post enc Tryz.prog Tryz.f4 false true false false) := by
  refine law_lift (C := Tryz.checked) (X := fun w _ => laidMetH Tryz.prog laid3 w) (tb := 4) (fun _ _ _ hh h => h.of_heap hh) ownKn started (by kernel_rfl) Tryz.func4
    (ChangeSpec.witness_shaped (enc := enc) (C := Tryz.checked) (os := os) (X := fun w _ => laidMetH Tryz.prog laid3 w) false (World.doorLaid Tryz.prog 24 os) #[.slice none 0 0] 8 rfl (World.shaped_of_RefB (by kernel_rfl) (by kernel_rfl)) (by kernel_rfl) (by kernel_rfl) (by kernel_rfl) (door_met os _))
    laidOutP (by kernel_rfl) (by kernel_rfl) Tryz.underlying4 rfl
    (fun ds hd => by
      match ds, hd.trans (show Tryz.f4.params.size = 1 by kernel_rfl) with
      | [d0], _ => rfl) ?_
  intro W base args ds p hval hA hL
  rw [Tryz.params4] at hA hval
  obtain ⟨v0, d0, rfl, rfl, h0⟩ := trodAll_one hA
  obtain ⟨bs, hb⟩ := open_bytesT (hval 0 _ v0 rfl rfl) h0
  exact law22_c v0 bs W hb (tab_of_laid hL)
theorem row22 : Rows.FnSoundSaid :=
  OpenClaim.holds_of_wide 4 Tryz.f4 rfl rfl rfl rfl rfl rfl rfl ⟨rfl, rfl, rfl, rfl, rfl⟩ rfl rfl rfl rfl rfl (by kernel_rfl) Tryz.func4 (by kernel_rfl)
    (of_decide_eq_true (by kernel_rfl)) (by unfold Func.isWrapper; first | (rw [if_pos (by decide +kernel)]; kernel_rfl) | (rw [if_neg (by decide +kernel)]; exact ⟨rfl, rfl⟩))
    (fun os started H enc _ => lifted22 os started H enc)
theorem sound_holds : Rows.FnSoundCardSaid :=
  Claim7.holds_tied_plain_at .later [] Rows.fnSoundCard.laidKinds true Rows.fnSoundCard.stood.harness Rows.fnSoundCard.stood.looks
    row22 (fun _ h => by cases h) (by kernel_rfl) (fun _ h => by cases h) fnSound_row_tie rfl ⟨rfl, rfl⟩ (by kernel_rfl) rfl
    (fun f fn hf hfn => by
      obtain rfl : f = 4 := Option.some.inj ((show Tryz.prog.funcNamed "loop.example/g01079/laws.FnSound" = some 4 by kernel_rfl).symm.trans hf) |>.symm
      obtain rfl : fn = Tryz.f4 := (Option.some.inj (Tryz.func4.symm.trans hfn)).symm
      exact ⟨by kernel_rfl, fun j t ht => by
        rw [Tryz.params4] at ht
        have hm : t ∈ [22] := by simpa using Array.mem_of_getElem? ht
        have hall : ([22].all fun u => !Tryz.prog.wantsStandIn u) = true := by kernel_rfl
        exact (show Tryz.prog.wantsStandIn t = false by simpa using List.all_eq_true.1 hall t hm)⟩)
    (by kernel_rfl)
#print axioms sound_holds
end Go.Proofs.YtacpchapgklcgaaGreatDoor
end
