/- The walk of the law on the list of the nodes that are found. -/
import Derived.Test.YtdkdmcaehinkhaaDoorAns
import Derived.Test.YtdkdmcaehinkhaaDoorLaws7
namespace Go.Proofs.YtdkdmcaehinkhaaDoor
open Go Go.RowKit Go.Proofs
set_option maxHeartbeats 400000
@[simp] theorem nums_len (k : Int) (i : Nat) : (nums k i).length = i := by simp [nums]
theorem numRows_same (k : Int) (xss : List (List Int)) : numRows k xss = numRows k (numRows k xss) := by
  induction xss generalizing k with
  | nil => rfl
  | cons x r ih => simp only [numRows, nums_len]; rw [← ih]
theorem numRows_tot (k : Int) (xss : List (List Int)) : tot (numRows k xss) = tot xss := by
  induction xss generalizing k with
  | nil => rfl
  | cons x r ih =>
    have := ih (k + x.length)
    simp only [tot, numRows, List.map_cons, List.sum_cons, nums_len] at *
    omega
theorem OwnIntRows.kept {base base' : Nat} {w w' : World} {g rv : Value} {xs : List (List Int)} {rs : List RuleD} (h : OwnIntRows base w g xs) (hr : OwnRules base' w rv rs) (hg : w.grownBy w' rv.ownBlock) : OwnIntRows base w' g xs := by
  obtain ⟨vs, o1, o2, o3⟩ := h
  refine ⟨vs, o1.kept hg (own_ne o1 hr (by decide)), fun i hi => ?_, o3⟩
  obtain ⟨u, e, hu⟩ := o2 i hi
  exact ⟨u, e, World.ownsRow.kept hu hg (own_ne hu hr (by decide))⟩
set_option maxRecDepth 20000 in
set_option maxHeartbeats 4000000 in
theorem law1_c (v : Value) (m : MachD) (n : Int) (w : World) (h : Mach w v m) (hT : Tab w) :
    Calls Tryd.prog 3 #[v, .int .i64 n] w fun e w' => e = .returned (.bool true) ∧ Ext w w' := by
  obtain ⟨rv, rfl, hr⟩ := h
  obtain ⟨Ar, cr, rfl, h3, h3'⟩ := hr.form
  have bM := Blk.new w w.heap.size 24 #[.int .i64 m.sy, .int .i64 m.st, .slice Ar m.rules.length cr] rfl
  have hx0 := Ext.alloc w (.cells #[.int .i64 m.sy, .int .i64 m.st, .slice Ar m.rules.length cr] 24)
  go_enter Tryd.func3, Tryd.ntmps3
  go_wp2_with fail
  refine (szMachine_c _ m _ _ ⟨_, rfl, hr.ext hx0⟩ (by omega) (by omega)).mono ?_
  rintro e w1 ⟨rfl, hx1⟩
  by_cases hbig : (1048576 : Int) < m.rules.length
  · rw [if_pos hbig]
    go_wp2
    go_ret
    exact ⟨rfl, hx0.trans hx1⟩
  · rw [if_neg hbig]
    have hlen : m.rules.length ≤ 1048576 := by omega
    have hX1 := hx0.trans hx1
    have b1 := bM.ext hx1
    have c0 := b1.cell 0
    have c1 := b1.cell 1
    have c2 := b1.cell 2
    simp only [List.getElem?_toArray, List.getElem?_cons_zero, List.getElem?_cons_succ] at c0 c1 c2
    go_wp2_with fail
    refine (toMachine_c _ m _ ⟨_, rfl, hr.ext hX1⟩ hlen).mono ?_
    rintro e w2 ⟨rv2, rfl, ho2, hx2⟩
    have hX2 := hX1.trans hx2
    go_wp2_with fail
    refine (specNodes_c _ m n w2 ⟨_, rfl, ho2.rules⟩).mono ?_
    rintro e w3 hres
    obtain ⟨s0, xs, sb, sc, rfl, hans, hs3, hx3⟩ := hres.ans
    have hX3 := hX2.trans hx3
    have b3 := b1.ext (hx2.trans hx3)
    have d0 := b3.cell 0
    have d1 := b3.cell 1
    have d2 := b3.cell 2
    simp only [List.getElem?_toArray, List.getElem?_cons_zero, List.getElem?_cons_succ] at d0 d1 d2
    have HANS := Lib.hid hans
    clear hres hans c0 c1 c2 ho2
    go_wp2_with fail
    refine (toMachine_c _ m _ ⟨_, rfl, hr.ext hX3⟩ hlen).mono ?_
    rintro e w5 ⟨rv5, rfl, ho5, hx5⟩
    obtain ⟨A5, c5, rfl, _, _⟩ := ho5.rules.form
    have HB : ∃ W, W = w5.alloc (.cells #[.int .i64 m.sy, .int .i64 m.st, .slice A5 m.rules.length c5] 31) := ⟨_, rfl⟩
    obtain ⟨W, hW⟩ := HB
    have hXW : Ext w5 W := by rw [hW]; exact Ext.alloc _ _
    have bW : Blk W w5.heap.size 31 #[.int .i64 m.sy, .int .i64 m.st, .slice A5 m.rules.length c5] := by rw [hW]; exact Blk.new _ _ _ _ rfl
    have hE3 : Ext w3 W := hx5.trans hXW
    have oW := ho5.ext hXW
    have hTW := hT.below hT.low (hX3.trans hE3)
    go_wp2_with fail
    rw [← hW]
    clear hW d0 d1 d2
    refine (SegmentNodes_c _ m n W ⟨_, rfl, oW.rules⟩ hTW).mono ?_
    rintro e w7 hres
    obtain ⟨g0, xs7, gb, gc, rfl, hans7, hg7, hx7⟩ := hres.ans
    obtain ⟨rfl, rfl, rfl⟩ := hans7.unique HANS.out
    clear hres hans7
    have hE7 : Ext w3 w7 := hE3.trans hx7
    have bW7 := bW.ext hx7
    have b7 := b3.ext hE7
    have htot := HANS.out.tot
    have hl7 : lEq xs7 xs7 = true := lEq_true rfl
    go_wp2_with fail
    refine (eqInt64SS_c _ _ _ xs7 xs7 hg7.rows (hs3.rows.ext hE7)).mono ?_
    rintro e w8 ⟨rfl, hx8⟩
    have c0 := (bW7.ext hx8).cell 0
    have c1 := (bW7.ext hx8).cell 1
    have c2 := (bW7.ext hx8).cell 2
    have d0 := (b7.ext hx8).cell 0
    have d1 := (b7.ext hx8).cell 1
    have d2 := (b7.ext hx8).cell 2
    simp only [List.getElem?_toArray, List.getElem?_cons_zero, List.getElem?_cons_succ] at c0 c1 c2 d0 d1 d2
    have hMr : Mach w8.drew (.agg #[.int .i64 m.sy, .int .i64 m.st, .slice Ar m.rules.length cr]) m := ⟨_, rfl, ((hr.ext (hX3.trans hE7)).ext hx8).ext (Ext.drew _)⟩
    have hMx : Mach w8 (.agg #[.int .i64 m.sy, .int .i64 m.st, .slice A5 m.rules.length c5]) m := ⟨_, rfl, (oW.rules.ext hx7).ext hx8⟩
    have hdm : decide (m = m) = true := by simp
    go_wp2_with fail
    go_region_held3 (fun w' => w'.cell? ⟨w5.heap.size, 0, none⟩ = some (.int .i64 m.sy) ∧ w'.cell? ⟨w5.heap.size, 1, none⟩ = some (.int .i64 m.st) ∧ w'.cell? ⟨w5.heap.size, 2, none⟩ = some (.slice A5 m.rules.length c5) ∧ w'.cell? ⟨w.heap.size, 0, none⟩ = some (.int .i64 m.sy) ∧ w'.cell? ⟨w.heap.size, 1, none⟩ = some (.int .i64 m.st) ∧ w'.cell? ⟨w.heap.size, 2, none⟩ = some (.slice Ar m.rules.length cr))
      (first | go_keep | exact ⟨hx9.cell c0, hx9.cell c1, hx9.cell c2, hx9.cell d0, hx9.cell d1, hx9.cell d2⟩ | exact ⟨hx10.cell c0, hx10.cell c1, hx10.cell c2, hx10.cell d0, hx10.cell d1, hx10.cell d2⟩)
      (first
        | (go_at_call 8; ((with_reducible refine (toMachine_c _ m _ hMr hlen).mono ?_)); rintro e w9 ⟨rv9, rfl, ho9, hx9'⟩; have hx9 := (Ext.drew w8).trans hx9'; have hM9 : Mach w9 (.agg #[.int .i64 m.sy, .int .i64 m.st, rv9]) m := ⟨_, rfl, ho9.rules⟩; have hM9x := hMx.ext hx9)
        | (go_at_call 11; ((with_reducible refine (eqMachine_c _ _ _ m m hM9x hM9).mono ?_)); rintro e w10 ⟨rfl, hx10'⟩; have hx10 := hx9.trans hx10'))
    all_goals
      have hx710 := hx8.trans hx10
      have hE10 := hE7.trans hx710
      have o10 := (oW.ext hx7).ext hx710
      have g10 := hg7.ext hx710
      have e0 := (bW7.ext hx710).cell 0
      have e1 := (bW7.ext hx710).cell 1
      have e2 := (bW7.ext hx710).cell 2
      simp only [List.getElem?_toArray, List.getElem?_cons_zero, List.getElem?_cons_succ] at e0 e1 e2
      clear c0 c1 c2 d0 d1 d2
      go_wp2_with fail
      refine (markMachine_c w3.heap.size m.sy m.st _ m.rules 1 _ o10 hE10.size (by omega) (by omega)).mono ?_
      rintro e w11 ⟨rfl, hb11, hg11⟩
      have hE11 : Ext w3 w11 := Below.trans hE10 hb11
      have g11 := g10.kept o10 hg11
      have hk1 : decide ((1 : Int) + 3 * (m.rules.length : Int) < 0) = false := by simp; omega
      clear e0 e1 e2
      go_wp2_with fail
      refine (eqInt64SS_c _ _ _ xs7 xs7 g11.rows (hs3.rows.ext hE11)).mono ?_
      rintro e w12 ⟨rfl, hx12⟩
      have hE12 := hE11.trans hx12
      have hsz12 : W.heap.size ≤ w12.heap.size := by have a1 := hx7.size; have a2 := hx710.size; have a3 := hb11.size; have a4 := hx12.size; omega
      go_wp2_with fail
      refine (markInt64SS_c W.heap.size _ xs7 1 _ (g11.ext hx12) hsz12 (by omega) (by omega)).mono ?_
      rintro e w13 ⟨rfl, g13, hb13⟩
      have hE13 : Ext w3 w13 := Below.trans hE12 (Below.mono hb13 hE3.size)
      have hnt := numRows_tot 1 xs7
      have hns := numRows_same 1 xs7
      go_wp2_with fail
      refine (heldInt64SS_c _ (numRows 1 xs7) 1 _ g13.rows (by omega) (by omega) hns).mono ?_
      rintro e w' ⟨rfl, rfl⟩
      rw [hnt]
      have hk2 : decide ((1 : Int) + (tot xs7 : Int) < 0) = false := by simp; omega
      have b13 := b3.ext hE13
      have d0 := b13.cell 0
      have d1 := b13.cell 1
      have d2 := b13.cell 2
      simp only [List.getElem?_toArray, List.getElem?_cons_zero, List.getElem?_cons_succ] at d0 d1 d2
      go_wp2_with fail
      refine (toMachine_c _ m _ ⟨_, rfl, hr.ext (hX3.trans hE13)⟩ hlen).mono ?_
      rintro e w14 ⟨rv14, rfl, ho14, hx14⟩
      have hE14 := hE13.trans hx14
      go_wp2_with fail
      refine (SegmentNodes_c _ m n w14 ⟨_, rfl, ho14.rules⟩ (hT.below hT.low (hX3.trans hE14))).mono ?_
      rintro e w15 hres
      obtain ⟨h0, xs15, hb, hc, rfl, hans15, hg15, hx15⟩ := hres.ans
      obtain ⟨rfl, rfl, rfl⟩ := hans15.unique HANS.out
      clear hres hans15
      have hE15 := hE14.trans hx15
      have g15 := (g13.ext hx14).ext hx15
      go_wp2_with fail
      refine (eqInt64SS_c _ _ _ xs15 xs15 hg15.rows (hs3.rows.ext hE15)).mono ?_
      rintro e w16 ⟨rfl, hx16⟩
      go_wp2_with fail
      refine (heldInt64SS_c _ (numRows 1 xs15) 1 _ (g15.ext hx16).rows (by omega) (by omega) hns).mono ?_
      rintro e w' ⟨rfl, rfl⟩
      rw [hnt]
      go_wp2
      go_ret
      exact ⟨rfl, (hX3.trans hE15).trans hx16⟩
end Go.Proofs.YtdkdmcaehinkhaaDoor
