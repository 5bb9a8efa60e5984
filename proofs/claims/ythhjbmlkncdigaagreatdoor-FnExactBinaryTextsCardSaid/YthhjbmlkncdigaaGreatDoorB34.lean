/- The walk of the law on BinaryTexts, for every machine, every configuration and every number.
A configuration as an argument. No condition.
The program's texts of the run of the machine with two symbols and the reference's are the same, for every machine, every configuration and every number: the law answers true and leaves its arguments as they are. The listed tables of the library hold what the program's text lays in them. -/
import Derived.Test.YthhjbmlkncdigaaGreatDoorB32
import Derived.Test.YthhjbmlkncdigaaGreatDoorB29
import Derived.Test.YthhjbmlkncdigaaGreatDoorB33
import Derived.Deep.RegionHeld3
import Derived.Test.YthhjbmlkncdigaaGreatDoorB02
import Derived.Test.YthhjbmlkncdigaaGreatDoorB05
import Derived.Test.YthhjbmlkncdigaaGreatDoorCards
section
set_option linter.unusedSimpArgs false
set_option linter.unusedVariables false
namespace Go.Proofs.YthhjbmlkncdigaaGreatDoor
open Go Go.RowKit Go.Proofs
set_option maxHeartbeats 400000
set_option maxRecDepth 20000 in
set_option maxHeartbeats 4000000 in
theorem law26_c (v u : Value) (m : MachD) (c : ConfD) (n : Int) (w : World) (h : Mach w v m) (h' : Conf w u c) (hT : Tab w) :
    Calls Tryz.prog 3 #[v, u, .int .i64 n] w fun e w' => e = .returned (.bool true) ∧ Ext w w' := by
  obtain ⟨rv, rfl, hr⟩ := h
  obtain ⟨lv, qv, rfl, hl, hq⟩ := h'
  obtain ⟨Ar, cr, rfl, _, _⟩ := hr.form
  obtain ⟨Al, cl, rfl, _, _⟩ := hl.form
  obtain ⟨Aq, cq, rfl, _, _⟩ := hq.form
  obtain ⟨W, hW⟩ : ∃ W, W = (w.alloc (.cells #[.int .i64 m.sy, .int .i64 m.st, .slice Ar m.rules.length cr] 24)).alloc (.cells #[.int .i64 c.q, .slice Al c.l.length cl, .slice Aq c.r.length cq] 27) := ⟨_, rfl⟩
  have hx0 : Ext w W := by rw [hW]; exact (Ext.alloc _ _).trans (Ext.alloc _ _)
  have bM : Blk W w.heap.size 24 #[.int .i64 m.sy, .int .i64 m.st, .slice Ar m.rules.length cr] := by rw [hW]; exact (Blk.new _ _ _ _ rfl).alloc _
  have bC : Blk W (w.heap.size + 1) 27 #[.int .i64 c.q, .slice Al c.l.length cl, .slice Aq c.r.length cq] := by rw [hW]; exact Blk.new _ _ _ _ (by simp)
  go_enter Tryz.func3, Tryz.ntmps3
  go_wp2_with fail
  rw [← hW]
  clear hW
  refine (szMachine_c _ m _ _ ⟨_, rfl, hr.ext hx0⟩ (by omega) (by omega)).mono ?_
  rintro e w1 ⟨rfl, hx1⟩
  by_cases hbig : (1048576 : Int) < m.rules.length
  · rw [if_pos hbig]
    go_wp2
    go_ret
    exact ⟨rfl, hx0.trans hx1⟩
  · rw [if_neg hbig]
    have hlen : m.rules.length ≤ 1048576 := by omega
    have hX1 := hx0.trans hx1
    have d0 := (bC.ext hx1).cell 0
    have d1 := (bC.ext hx1).cell 1
    have d2 := (bC.ext hx1).cell 2
    simp only [List.getElem?_toArray, List.getElem?_cons_zero, List.getElem?_cons_succ] at d0 d1 d2
    clear hbig
    go_wp2_with fail
    refine (szConfig_c _ c _ _ ⟨_, _, rfl, hl.ext hX1, hq.ext hX1⟩ (by omega) (by omega)).mono ?_
    rintro e w2 ⟨rfl, hx2⟩
    have hX2 := hX1.trans hx2
    clear d0 d1 d2
    by_cases hbig : (1048576 - (m.rules.length : Int)) < ((c.l.length + c.r.length : Nat) : Int)
    · rw [szF_no hbig]
      go_wp2
      go_ret
      exact ⟨rfl, hX2⟩
    · rw [szF_yes hbig]
      have hsz : c.l.length + c.r.length ≤ 1048576 := by omega
      have hpos : 0 ≤ 1048576 - (m.rules.length : Int) - ((c.l.length + c.r.length : Nat) : Int) := by omega
      generalize 1048576 - (m.rules.length : Int) - ((c.l.length + c.r.length : Nat) : Int) = lf at *
      have bM2 := (bM.ext hx1).ext hx2
      have bC2 := (bC.ext hx1).ext hx2
      clear hbig bM bC hx0
      have hXd := hX2.trans (Ext.drew _)
      have hM0 : Mach w2.drew (.agg #[.int .i64 m.sy, .int .i64 m.st, .slice Ar m.rules.length cr]) m := ⟨_, rfl, hr.ext hXd⟩
      have hC0 : Conf w2.drew (.agg #[.int .i64 c.q, .slice Al c.l.length cl, .slice Aq c.r.length cq]) c := ⟨_, _, rfl, hl.ext hXd, hq.ext hXd⟩
      have c0 := (bM2.ext (Ext.drew _)).cell 0
      have c1 := (bM2.ext (Ext.drew _)).cell 1
      have c2 := (bM2.ext (Ext.drew _)).cell 2
      have d0 := (bC2.ext (Ext.drew _)).cell 0
      have d1 := (bC2.ext (Ext.drew _)).cell 1
      have d2 := (bC2.ext (Ext.drew _)).cell 2
      simp only [List.getElem?_toArray, List.getElem?_cons_zero, List.getElem?_cons_succ] at c0 c1 c2 d0 d1 d2
      go_wp2_with fail
      refine wp_region_ordT 10 (readsT [0, 2, 4] (.stir 1 (.stir 3 (.stir 5 (readsT [6, 7, 8, 9] .done))))) (by kernel_rfl) (by kernel_rfl) (fun _ _ _ _ _ h => h) ?_
      simp only [readsT]
      iterate 3 (refine wpOrdT_read (v := ?_) (by rfl) (Or.inl ⟨by rfl, fun x hx => ?_⟩) ?_; rotate_left; (· have a0 := hx.cell c0; have a1 := hx.cell c1; have a2 := hx.cell c2; have a3 := hx.cell d0; have a4 := hx.cell d1; have a5 := hx.cell d2; go_simp; try with_reducible rfl); try simp only [Act.put, List.setIfInBounds_toArray, List.set_cons_zero, List.set_cons_succ])
      refine wpOrdT_keep (by rfl) (fun K hK => ?_)
      go_simp
      go_at_call 7
      refine (toMachine_c _ m _ hM0 hlen).mono ?_
      rintro e wA ⟨rvA, rfl, hoA, hxA⟩
      refine hK _ _ hxA ?_
      clear hK K
      refine wpOrdT_keep (by rfl) (fun K hK => ?_)
      go_simp
      go_at_call 8
      refine (toConfigM_c _ c _ (hC0.ext hxA) hsz).mono ?_
      rintro e wB ⟨uB, rfl, ⟨lvB, rvB, rfl, olB, orB, _⟩, hxB⟩
      refine hK _ _ (hxA.trans hxB) ?_
      clear hK K
      refine wpOrdT_keep (by rfl) (fun K hK => ?_)
      go_simp
      go_at_call 6
      refine (specBinaryTexts_c wB m c n rvA lvB rvB (hoA.rules.ext hxB) olB.ints orB.ints).mono ?_
      rintro e wS ⟨L, kk, tvS, rfl, oS, hSS, hxC⟩
      refine hK _ _ ((hxA.trans hxB).trans hxC) ?_
      clear hK K
      obtain ⟨AL, CL, rfl, _, _, _⟩ := (ownsRow_row oS).form
      have hxS : Ext w2 wS := ((Ext.drew _).trans hxA).trans (hxB.trans hxC)
      clear hxA hxB hxC hoA olB orB hM0 hC0 hXd c0 c1 c2 d0 d1 d2
      iterate 4 (refine wpOrdT_read (v := ?_) (by rfl) (Or.inl ⟨by rfl, fun x hx => ?_⟩) ?_; rotate_left; (· go_simp; try with_reducible rfl); try simp only [Act.put, List.setIfInBounds_toArray, List.set_cons_zero, List.set_cons_succ])
      refine wpOrdT_done ?_
      try simp only [List.drop_succ_cons, List.drop_zero]
      have HSS := Lib.hid hSS
      have HLE := Lib.hid (BTxt.len hSS)
      clear hSS
      have iS := ownsRow_row oS
      have hXC := hX2.trans hxS
      have bMC := bM2.ext hxS
      have bCC := bC2.ext hxS
      clear oS
      have c0 := bMC.cell 0
      have c1 := bMC.cell 1
      have c2 := bMC.cell 2
      simp only [List.getElem?_toArray, List.getElem?_cons_zero, List.getElem?_cons_succ] at c0 c1 c2
      -- region 9
      go_wp2_with fail
      refine (toMachine_c _ m _ ⟨_, rfl, hr.ext hXC⟩ hlen).mono ?_
      rintro e w5 ⟨rv5, rfl, ho5, hx5⟩
      obtain ⟨A5, c5, rfl, _, _⟩ := ho5.rules.form
      obtain ⟨W5, hW5⟩ : ∃ W, W = w5.alloc (.cells #[.int .i64 m.sy, .int .i64 m.st, .slice A5 m.rules.length c5] 35) := ⟨_, rfl⟩
      have hxW5 : Ext w5 W5 := by rw [hW5]; exact Ext.alloc _ _
      have bX : Blk W5 w5.heap.size 35 #[.int .i64 m.sy, .int .i64 m.st, .slice A5 m.rules.length c5] := by rw [hW5]; exact Blk.new _ _ _ _ rfl
      have hE5 := hx5.trans hxW5
      have hX5 := hXC.trans hE5
      have oX := ho5.ext hxW5
      have bC5 := bCC.ext hE5
      clear c0 c1 c2
      have d0 := bC5.cell 0
      have d1 := bC5.cell 1
      have d2 := bC5.cell 2
      simp only [List.getElem?_toArray, List.getElem?_cons_zero, List.getElem?_cons_succ] at d0 d1 d2
      rw [hW5] at d0 d1 d2
      -- region 10
      go_wp2_with fail
      rw [← hW5]
      clear hW5 d0 d1 d2
      refine (toConfig_c _ c _ ⟨_, _, rfl, hl.ext hX5, hq.ext hX5⟩ hsz).mono ?_
      rintro e w6 ⟨lv6, rv6, rfl, ol6, or6, ap6, hx6⟩
      obtain ⟨A6, c6, rfl, _, _⟩ := ol6.ints.form
      obtain ⟨B6, e6, rfl, _, _⟩ := or6.ints.form
      obtain ⟨V, hV⟩ : ∃ W, W = w6.alloc (.cells #[.int .i64 c.q, .slice A6 c.l.length c6, .slice B6 c.r.length e6] 37) := ⟨_, rfl⟩
      have hxV : Ext w6 V := by rw [hV]; exact Ext.alloc _ _
      have bY : Blk V w6.heap.size 37 #[.int .i64 c.q, .slice A6 c.l.length c6, .slice B6 c.r.length e6] := by rw [hV]; exact Blk.new _ _ _ _ rfl
      have hE6 := hE5.trans (hx6.trans hxV)
      have bX6 := bX.ext (hx6.trans hxV)
      have oX6 := oX.ext (hx6.trans hxV)
      have oL6 := ol6.ext hxV
      have oR6 := or6.ext hxV
      have c0 := bX6.cell 0
      have c1 := bX6.cell 1
      have c2 := bX6.cell 2
      simp only [List.getElem?_toArray, List.getElem?_cons_zero, List.getElem?_cons_succ] at c0 c1 c2
      rw [hV] at c0 c1 c2
      -- region 11
      go_wp2_with fail
      rw [← hV]
      clear hV c0 c1 c2
      refine (BinaryTexts_c V m c n _ _ _ oX6.rules oL6.ints oR6.ints oL6.flat oR6.flat (hT.ext (hXC.trans hE6))).mono ?_
      rintro e w7 ⟨L7, k7, tv7, rfl, o7, h7, hx7⟩
      obtain ⟨hL, hK⟩ := BTxt.unique HSS.out h7
      subst hL hK
      clear h7
      obtain ⟨A7, c7, rfl, _, _, _⟩ := (ownsRow_row o7).form
      have hE7 := hE6.trans hx7
      have bX7 := bX6.ext hx7
      have bY7 := bY.ext hx7
      have oX7 := oX6.ext hx7
      have oY1 := oL6.ext hx7
      have oY2 := oR6.ext hx7
      have hcc : (kk != kk) = false := by simp
      -- region 12
      go_wp2_with fail
      refine (eqStringS_c _ _ _ L (ownsRow_row o7) (iS.ext hE7)).mono ?_
      rintro e w8 ⟨rfl, hx8⟩
      have hE8 := hE7.trans hx8
      have hXw8 := hXC.trans hE8
      have o8 := ownsRow_ext o7 hx8
      have c0 := (bX7.ext hx8).cell 0
      have c1 := (bX7.ext hx8).cell 1
      have c2 := (bX7.ext hx8).cell 2
      have d0 := (bMC.ext hE8).cell 0
      have d1 := (bMC.ext hE8).cell 1
      have d2 := (bMC.ext hE8).cell 2
      simp only [List.getElem?_toArray, List.getElem?_cons_zero, List.getElem?_cons_succ] at c0 c1 c2 d0 d1 d2
      have hMr : Mach w8.drew (.agg #[.int .i64 m.sy, .int .i64 m.st, .slice Ar m.rules.length cr]) m := ⟨_, rfl, (hr.ext hXw8).ext (Ext.drew _)⟩
      have hMx : Mach w8 (.agg #[.int .i64 m.sy, .int .i64 m.st, .slice A5 m.rules.length c5]) m := ⟨_, rfl, oX7.rules.ext hx8⟩
      have hdm : decide (m = m) = true := by simp
      have hdc : decide (c = c) = true := by simp
      -- region 14
      go_wp2_with fail
      go_region_held3 (fun w' => w'.cell? ⟨w5.heap.size, 0, none⟩ = some (.int .i64 m.sy) ∧ w'.cell? ⟨w5.heap.size, 1, none⟩ = some (.int .i64 m.st) ∧ w'.cell? ⟨w5.heap.size, 2, none⟩ = some (.slice A5 m.rules.length c5) ∧ w'.cell? ⟨w.heap.size, 0, none⟩ = some (.int .i64 m.sy) ∧ w'.cell? ⟨w.heap.size, 1, none⟩ = some (.int .i64 m.st) ∧ w'.cell? ⟨w.heap.size, 2, none⟩ = some (.slice Ar m.rules.length cr))
        (first | go_keep | exact ⟨hx9.cell c0, hx9.cell c1, hx9.cell c2, hx9.cell d0, hx9.cell d1, hx9.cell d2⟩ | exact ⟨hx10.cell c0, hx10.cell c1, hx10.cell c2, hx10.cell d0, hx10.cell d1, hx10.cell d2⟩)
        (first
          | (go_at_call 7; ((with_reducible refine (toMachine_c _ m _ hMr hlen).mono ?_)); rintro e w9 ⟨rv9, rfl, ho9, hx9'⟩; have hx9 := (Ext.drew w8).trans hx9'; have hM9 : Mach w9 (.agg #[.int .i64 m.sy, .int .i64 m.st, rv9]) m := ⟨_, rfl, ho9.rules⟩; have hM9x := hMx.ext hx9)
          | (go_at_call 11; ((with_reducible refine (eqMachine_c _ _ _ m m hM9x hM9).mono ?_)); rintro e w10 ⟨rfl, hx10'⟩; have hx10 := hx9.trans hx10'))
      have hxA := hx8.trans hx10
      have hE10 := hE7.trans hxA
      have hXw10 := hXC.trans hE10
      have oX10 := oX7.ext hxA
      have o10 := ownsRow_ext o7 hxA
      have oY10 := oY1.ext hxA
      have oY20 := oY2.ext hxA
      have bY10 := bY7.ext hxA
      have bX10 := bX7.ext hxA
      clear c0 c1 c2 d0 d1 d2
      have c0 := bY10.cell 0
      have c1 := bY10.cell 1
      have c2 := bY10.cell 2
      have d0 := (bCC.ext hE10).cell 0
      have d1 := (bCC.ext hE10).cell 1
      have d2 := (bCC.ext hE10).cell 2
      simp only [List.getElem?_toArray, List.getElem?_cons_zero, List.getElem?_cons_succ] at c0 c1 c2 d0 d1 d2
      have hCr : Conf w10.drew (.agg #[.int .i64 c.q, .slice Al c.l.length cl, .slice Aq c.r.length cq]) c := ⟨_, _, rfl, (hl.ext hXw10).ext (Ext.drew _), (hq.ext hXw10).ext (Ext.drew _)⟩
      have hCx : Conf w10 (.agg #[.int .i64 c.q, .slice A6 c.l.length c6, .slice B6 c.r.length e6]) c := ⟨_, _, rfl, oY10.ints, oY20.ints⟩
      -- region 16
      go_wp2_with fail
      go_region_held3 (fun w' => w'.cell? ⟨w6.heap.size, 0, none⟩ = some (.int .i64 c.q) ∧ w'.cell? ⟨w6.heap.size, 1, none⟩ = some (.slice A6 c.l.length c6) ∧ w'.cell? ⟨w6.heap.size, 2, none⟩ = some (.slice B6 c.r.length e6) ∧ w'.cell? ⟨w.heap.size + 1, 0, none⟩ = some (.int .i64 c.q) ∧ w'.cell? ⟨w.heap.size + 1, 1, none⟩ = some (.slice Al c.l.length cl) ∧ w'.cell? ⟨w.heap.size + 1, 2, none⟩ = some (.slice Aq c.r.length cq))
        (first | go_keep | exact ⟨hx11.cell c0, hx11.cell c1, hx11.cell c2, hx11.cell d0, hx11.cell d1, hx11.cell d2⟩ | exact ⟨hx12.cell c0, hx12.cell c1, hx12.cell c2, hx12.cell d0, hx12.cell d1, hx12.cell d2⟩)
        (first
          | (go_at_call 8; ((with_reducible refine (toConfigM_c _ c _ hCr hsz).mono ?_)); rintro e w11 ⟨u11, rfl, hC11, hx11'⟩; have hx11 := (Ext.drew w10).trans hx11'; have hC11x := hCx.ext hx11)
          | (go_at_call 12; ((with_reducible refine (eqConfig_c _ _ _ c c hC11x hC11.conf).mono ?_)); rintro e w12 ⟨rfl, hx12'⟩; have hx12 := hx11.trans hx12'))
      have hE12 := hE10.trans hx12
      have oX12 := oX10.ext hx12
      have o12 := ownsRow_ext o10 hx12
      have oY12 := oY10.ext hx12
      have oY22 := oY20.ext hx12
      have bY12 := bY10.ext hx12
      have bX12 := bX10.ext hx12
      clear c0 c1 c2 d0 d1 d2
      have c0 := bX12.cell 0
      have c1 := bX12.cell 1
      have c2 := bX12.cell 2
      simp only [List.getElem?_toArray, List.getElem?_cons_zero, List.getElem?_cons_succ] at c0 c1 c2
      -- region 19
      go_wp2_with fail
      refine (markMachine_c wS.heap.size m.sy m.st _ m.rules 1 _ oX12 hE12.size (by omega) (by omega)).mono ?_
      rintro e w13 ⟨rfl, hb13, hg13⟩
      have hE13 : Ext wS w13 := Below.trans hE12 hb13
      have o13 := World.ownsRow.kept o12 hg13 (own_ne o12 oX12 (by decide))
      have oY13 := World.ownsRow.kept oY12 hg13 (own_ne oY12 oX12 (by decide))
      have oY23 := World.ownsRow.kept oY22 hg13 (own_ne oY22 oX12 (by decide))
      have bY13 := Blk.apart bY12 oX12 (by decide) hg13
      have hsz13 : W5.heap.size ≤ w13.heap.size := by have a1 := (hx6.trans hxV).size; have a2 := hx7.size; have a3 := hxA.size; have a4 := hx12.size; have a5 := hg13.size; omega
      clear c0 c1 c2
      have c0 := bY13.cell 0
      have c1 := bY13.cell 1
      have c2 := bY13.cell 2
      simp only [List.getElem?_toArray, List.getElem?_cons_zero, List.getElem?_cons_succ] at c0 c1 c2
      -- region 20
      go_wp2_with fail
      refine (markConfig_c W5.heap.size c.q _ _ c.l c.r _ _ oY13 oY23 ap6 hsz13 (by omega) (by omega)).mono ?_
      rintro e w14 ⟨rfl, _, _, hb14, ht14⟩
      have hE14 : Ext wS w14 := Below.trans hE13 (Below.mono hb14 hE5.size)
      have o14 := ht14.own o13 (fun g hg => ⟨ownrow_ne o13 oY13 (by decide) g hg, ownrow_ne o13 oY23 (by decide) g hg⟩)
      have hVw : wS.heap.size ≤ V.heap.size := hE6.size
      have hk1 : decide ((1 : Int) + 3 * (m.rules.length : Int) + (c.l.length : Int) + (c.r.length : Int) < 0) = false := by simp; omega
      clear c0 c1 c2
      -- region 21
      go_wp2_with fail
      refine (eqStringS_c _ _ _ L (ownsRow_row o14) (iS.ext hE14)).mono ?_
      rintro e w15 ⟨rfl, hx15⟩
      have hE15 := hE14.trans hx15
      have o15 := ownsRow_ext o14 hx15
      -- region 24
      go_wp2_with fail
      refine (markStringS_c V.heap.size _ L 1 _ o15 (by omega) (by have := HLE.out; omega)).mono ?_
      rintro e w16' ⟨rfl, oN, hg16⟩
      have hE16' : Ext wS w16' := hE15.grown hg16 (fun g hg => Nat.le_trans hVw (o15.lt g hg).1)
      have hNL := Lib.hid (mkL_length 1 L.length)
      have iN := ownsRow_row oN
      -- region 26
      go_wp2_with fail
      refine (heldStringS_c _ 1 L.length _ iN (by omega) (by have := HLE.out; omega)).mono ?_
      rintro e w16 ⟨rfl, hx16⟩
      have hE16 := hE16'.trans hx16
      have hXw16 := hXC.trans hE16
      have bM16 := bMC.ext hE16
      have bC16 := bCC.ext hE16
      have hk2 : decide ((1 : Int) + (L.length : Int) < 0) = false := by simp; omega
      -- region 31
      have hXd := hXw16.trans (Ext.drew _)
      have hM0 : Mach w16.drew (.agg #[.int .i64 m.sy, .int .i64 m.st, .slice Ar m.rules.length cr]) m := ⟨_, rfl, hr.ext hXd⟩
      have hC0 : Conf w16.drew (.agg #[.int .i64 c.q, .slice Al c.l.length cl, .slice Aq c.r.length cq]) c := ⟨_, _, rfl, hl.ext hXd, hq.ext hXd⟩
      have c0 := (bM16.ext (Ext.drew _)).cell 0
      have c1 := (bM16.ext (Ext.drew _)).cell 1
      have c2 := (bM16.ext (Ext.drew _)).cell 2
      have d0 := (bC16.ext (Ext.drew _)).cell 0
      have d1 := (bC16.ext (Ext.drew _)).cell 1
      have d2 := (bC16.ext (Ext.drew _)).cell 2
      simp only [List.getElem?_toArray, List.getElem?_cons_zero, List.getElem?_cons_succ] at c0 c1 c2 d0 d1 d2
      go_wp2_with fail
      refine wp_region_ordT 10 (readsT [0, 2, 4] (.stir 1 (.stir 3 (.stir 5 (readsT [6, 7, 8, 9] .done))))) (by kernel_rfl) (by kernel_rfl) (fun _ _ _ _ _ h => h) ?_
      simp only [readsT]
      iterate 3 (refine wpOrdT_read (v := ?_) (by rfl) (Or.inl ⟨by rfl, fun x hx => ?_⟩) ?_; rotate_left; (· have a0 := hx.cell c0; have a1 := hx.cell c1; have a2 := hx.cell c2; have a3 := hx.cell d0; have a4 := hx.cell d1; have a5 := hx.cell d2; go_simp; try with_reducible rfl); try simp only [Act.put, List.setIfInBounds_toArray, List.set_cons_zero, List.set_cons_succ])
      refine wpOrdT_keep (by rfl) (fun K hK => ?_)
      go_simp
      go_at_call 7
      refine (toMachine_c _ m _ hM0 hlen).mono ?_
      rintro e wA ⟨rvA, rfl, hoA, hxA⟩
      refine hK _ _ hxA ?_
      clear hK K
      refine wpOrdT_keep (by rfl) (fun K hK => ?_)
      go_simp
      go_at_call 8
      refine (toConfigM_c _ c _ (hC0.ext hxA) hsz).mono ?_
      rintro e wB ⟨uB, rfl, ⟨lvB, rvB, rfl, olB, orB, _⟩, hxB⟩
      refine hK _ _ (hxA.trans hxB) ?_
      clear hK K
      refine wpOrdT_keep (by rfl) (fun K hK => ?_)
      go_simp
      go_at_call 9
      refine (BinaryTexts_c wB m c n rvA lvB rvB (hoA.rules.ext hxB) olB.ints orB.ints olB.flat orB.flat (hT.ext (hXd.trans (hxA.trans hxB)))).mono ?_
      rintro e wh ⟨L2, k2, tvH, rfl, oH, hHH, hxC⟩
      refine hK _ _ ((hxA.trans hxB).trans hxC) ?_
      clear hK K
      obtain ⟨AL2, CL2, rfl, _, _, _⟩ := (ownsRow_row oH).form
      have hxH : Ext w16 wh := ((Ext.drew _).trans hxA).trans (hxB.trans hxC)
      clear hxA hxB hxC hoA olB orB hM0 hC0 hXd c0 c1 c2 d0 d1 d2
      iterate 4 (refine wpOrdT_read (v := ?_) (by rfl) (Or.inl ⟨by rfl, fun x hx => ?_⟩) ?_; rotate_left; (· go_simp; try with_reducible rfl); try simp only [Act.put, List.setIfInBounds_toArray, List.set_cons_zero, List.set_cons_succ])
      refine wpOrdT_done ?_
      try simp only [List.drop_succ_cons, List.drop_zero]
      obtain ⟨hL, hK⟩ := BTxt.unique HSS.out hHH
      subst hL hK
      clear hHH
      have hEH := hE16.trans hxH
      -- region 32
      go_wp2_with fail
      refine (eqStringS_c _ _ _ L (ownsRow_row oH) (iS.ext hEH)).mono ?_
      rintro e w17 ⟨rfl, hx17⟩
      have hLast := (hx16.trans hxH).trans hx17
      -- region 35
      go_wp2_with fail
      refine (heldStringS_c _ 1 L.length _ (iN.ext hLast) (by omega) (by have := HLE.out; omega)).mono ?_
      rintro e w18 ⟨rfl, hx18⟩
      go_wp2
      go_ret
      exact ⟨rfl, ((hXC.trans hE16').trans hLast).trans hx18⟩
end Go.Proofs.YthhjbmlkncdigaaGreatDoor
end
section
namespace Go.Proofs.YthhjbmlkncdigaaGreatDoor
open Go Go.RowKit Go.ChangeShapes Go.WideShapes Go.ChangeAt Go.Deep Go.Joins
section
variable {H : Type} {enc : TypeId × Value → H} {w : World}
set_option maxRecDepth 100000 in
theorem open_conf {r : Reach} {b0 : Nat} {v : Value} {d : DataW H} {p : List MemPlace} (hv : Value.okWide Tryz.prog w r b0 27 v) (h : DataW.Trod enc Tryz.prog w 0 (fun _ => true) true 27 v d p) : ∃ c, Conf w v c := by
  obtain ⟨v0, v1, v2, y0, y1, y2, n, rfl, _, _, h0, h1, h2⟩ := open_agg3 Tryz.underlying27 (by kernel_rfl) (by kernel_rfl) hv h
  obtain ⟨k0, e0, _⟩ := open_i64 Tryz.underlying2 h0
  obtain ⟨ls, hl⟩ := open_ints Tryz.underlying25 h1
  obtain ⟨rs, hr⟩ := open_ints Tryz.underlying25 h2
  injection e0 with e0 _
  subst e0
  exact ⟨⟨k0, ls, rs⟩, v1, v2, rfl, hl, hr⟩
end
end Go.Proofs.YthhjbmlkncdigaaGreatDoor
end
section
namespace Go.Proofs.YthhjbmlkncdigaaGreatDoor
open Go Go.RowKit Go.ChangeShapes Go.WideShapes Go.ChangeAt
set_option maxRecDepth 100000 in
theorem lifted26 (os : Os) (started : os.Started) (H : Type) (enc : TypeId × Value → H) :
    ReturnsInHanded {} Tryz.checked os 3 .any (fun w args => (Rows.fnExactBinaryTextsSpec.pre enc Tryz.prog Tryz.f3 [] false w args ∧ laidMetH Tryz.prog laid3 w) ∧ sizedMet enc Tryz.prog Tryz.f3 (OpenSpec.ofChange Rows.fnExactBinaryTextsSpec) false w args)
      (Rows.fnExactBinaryTextsSpec.post enc Tryz.prog Tryz.f3 false true false false) := by
  refine law_lift (C := Tryz.checked) (X := fun w _ => laidMetH Tryz.prog laid3 w) (tb := 4) (fun _ _ _ hh h => h.of_heap hh) ownKn started (by kernel_rfl) Tryz.func3
    (ChangeSpec.witness_shaped (enc := enc) (C := Tryz.checked) (os := os) (X := fun w _ => laidMetH Tryz.prog laid3 w) false (World.doorLaid Tryz.prog 24 os) #[.agg #[.int .i64 0, .int .i64 0, .slice none 0 0], .agg #[.int .i64 0, .slice none 0 0, .slice none 0 0], .int .i64 0] 8 rfl (World.shaped_of_RefB (by kernel_rfl) (by kernel_rfl)) (by kernel_rfl) (by kernel_rfl) (by kernel_rfl) (door_met os _))
    laidOutP (by kernel_rfl) (by kernel_rfl) Tryz.underlying4 rfl
    (fun ds hd => by
      match ds, hd.trans (show Tryz.f3.params.size = 3 by kernel_rfl) with
      | [d0, d1, d2], _ => rfl) ?_
  intro W base args ds p hval hA hL
  rw [Tryz.params3] at hA hval
  obtain ⟨v0, v1, v2, d0, d1, d2, p0, p1, p2, rfl, rfl, rfl, h0, h1, h2⟩ := trodAll_three hA
  obtain ⟨m, hm⟩ := open_mach (hval 0 _ v0 rfl rfl) h0
  obtain ⟨c, hc⟩ := open_conf (hval 1 _ v1 rfl rfl) h1
  obtain ⟨k0, rfl, _, _, _⟩ := open_int Tryz.underlying2 (hval 2 _ v2 rfl rfl) h2
  exact law26_c v0 v1 m c k0 W hm hc (tab_of_laid hL)
theorem row26 : Rows.FnExactBinaryTextsSaid :=
  OpenClaim.holds_of_wide 3 Tryz.f3 rfl rfl rfl rfl rfl rfl rfl ⟨rfl, rfl, rfl, rfl, rfl⟩ rfl rfl rfl rfl rfl (by kernel_rfl) Tryz.func3 (by kernel_rfl)
    (of_decide_eq_true (by kernel_rfl)) (by unfold Func.isWrapper; first | (rw [if_pos (by decide +kernel)]; kernel_rfl) | (rw [if_neg (by decide +kernel)]; exact ⟨rfl, rfl⟩))
    (fun os started H enc _ => lifted26 os started H enc)
theorem binaryTexts_holds : Rows.FnExactBinaryTextsCardSaid :=
  Claim7.holds_tied_plain_at .later [] Rows.fnExactBinaryTextsCard.laidKinds true Rows.fnExactBinaryTextsCard.stood.harness Rows.fnExactBinaryTextsCard.stood.looks
    row26 (fun _ h => by cases h) (by kernel_rfl) (fun _ h => by cases h) fnExactBinaryTexts_row_tie rfl ⟨rfl, rfl⟩ (by kernel_rfl) rfl
    (fun f fn hf hfn => by
      obtain rfl : f = 3 := Option.some.inj ((show Tryz.prog.funcNamed "loop.example/g01079/laws.FnExactBinaryTexts" = some 3 by kernel_rfl).symm.trans hf) |>.symm
      obtain rfl : fn = Tryz.f3 := (Option.some.inj (Tryz.func3.symm.trans hfn)).symm
      exact ⟨by kernel_rfl, fun j t ht => by
        rw [Tryz.params3] at ht
        have hm : t ∈ [24, 27, 2] := by simpa using Array.mem_of_getElem? ht
        have hall : ([24, 27, 2].all fun u => !Tryz.prog.wantsStandIn u) = true := by kernel_rfl
        exact (show Tryz.prog.wantsStandIn t = false by simpa using List.all_eq_true.1 hall t hm)⟩)
    (by kernel_rfl)
#print axioms binaryTexts_holds
end Go.Proofs.YthhjbmlkncdigaaGreatDoor
end
