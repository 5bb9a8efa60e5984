/- Contracts of the marks in proofs without words, and the walk of the law on the search for a proof by segments. -/
import Derived.Test.YtdkdmcaehinkhaaDoorFindI
import Derived.Test.YtdkdmcaehinkhaaDoorAns
import Derived.Test.YtdkdmcaehinkhaaDoorLaws7
import Derived.Deep.RegionHeld3
namespace Go.Proofs.YtdkdmcaehinkhaaDoor
open Go Go.RowKit Go.Proofs
set_option maxHeartbeats 400000
theorem rows_nil (base : Nat) (w : World) : OwnIntRows base w (.slice none 0 0) [] := ⟨[], ⟨by simp, .inl ⟨rfl, rfl⟩⟩, fun i hi => by simp at hi, fun i j u u' g hi => by simp at hi⟩
theorem tot_nil : tot [] = 0 := rfl
theorem Ext.grownBy {a b : World} (h : Ext a b) (row : Option Nat) : a.grownBy b row := ⟨Below.os h, Below.tape h, Below.output h, Below.size h, fun i hi _ => Below.block h i hi⟩
theorem markProof_c (base : Nat) (a : Int) (nv : Value) (zs : List Int) (k : Int) (w : World) (h : OwnInts base w nv zs) (hb : base ≤ w.heap.size) (h0 : 0 ≤ k) (h1 : k + zs.length ≤ 4611686018427387904) :
    Calls Tryd.prog 22 #[.agg #[.int .i64 a, nv, .slice none 0 0], .int .i64 k] w fun e w' => e = .returned (.int .i64 (k + zs.length)) ∧ OwnInts base w' nv (nums k zs.length) ∧ Below base w w' ∧ w.grownBy w' nv.ownBlock := by
  obtain ⟨A, c, rfl, _, _⟩ := h.ints.form
  have hx0 := Ext.alloc w (.cells #[.int .i64 a, .slice A zs.length c, .slice none 0 0] 43)
  have b0 := Blk.new w w.heap.size 43 #[.int .i64 a, .slice A zs.length c, .slice none 0 0] rfl
  have o0 := h.ext hx0
  go_enter Tryd.func22, Tryd.ntmps22
  go_wp2_with fail
  refine (markInt64S_c base _ zs k _ o0 h0 h1).mono ?_
  rintro e w1 ⟨rfl, ho1, hg1⟩
  have b1 := Blk.apart b0 o0 (by decide) hg1
  have c2 := b1.cell 2
  simp only [List.getElem?_toArray, List.getElem?_cons_zero, List.getElem?_cons_succ] at c2
  have hb1 : Below base w w1 := ((Below.refl _ _).alloc hb _).grown hg1 (by simp; omega) (fun g hg => (o0.lt g hg).1)
  go_wp2_with fail
  refine (markInt64SS_c w1.heap.size _ [] _ _ (rows_nil _ _) (Nat.le_refl _) (by omega) (by rw [tot_nil]; omega)).mono ?_
  rintro e w2 ⟨rfl, _, hb2⟩
  rw [tot_nil]
  go_wp2
  go_ret
  exact ⟨by simp, OwnInts.ext ho1 hb2, hb1.trans (Below.mono hb2 (by have := hb1.size; omega)), grownBy_trans (grownBy_trans (hx0.grownBy _) hg1) (Ext.grownBy hb2 _)⟩
theorem heldProof_c (a : Int) (nv : Value) (zs : List Int) (k : Int) (w : World) (h : Ints w nv zs) (h0 : 0 ≤ k) (h1 : k + zs.length ≤ 4611686018427387904) (hz : zs = nums k zs.length) :
    Calls Tryd.prog 23 #[.agg #[.int .i64 a, nv, .slice none 0 0], .int .i64 k] w fun e w' => e = .returned (.int .i64 (k + zs.length)) ∧ Ext w w' := by
  obtain ⟨A, c, rfl, _, _⟩ := h.form
  have hx0 := Ext.alloc w (.cells #[.int .i64 a, .slice A zs.length c, .slice none 0 0] 43)
  have HZ := Lib.hid hz
  clear hz
  go_enter Tryd.func23, Tryd.ntmps23
  go_wp2_with fail
  refine (heldInt64S_c _ zs k _ (h.ext hx0) h0 h1 HZ.out).mono ?_
  rintro e w' ⟨rfl, rfl⟩
  go_wp2_with fail
  refine (heldInt64SS_c _ [] _ _ (rows_nil 0 _).rows (by omega) (by rw [tot_nil]; omega) rfl).mono ?_
  rintro e w' ⟨rfl, rfl⟩
  rw [tot_nil]
  go_wp2
  go_ret
  exact ⟨by simp, hx0⟩
theorem OwnInts.kept' {base base' : Nat} {w w' : World} {g rv : Value} {xs : List Int} {rs : List RuleD} (h : OwnInts base w g xs) (hr : OwnRules base' w rv rs) (hg : w.grownBy w' rv.ownBlock) : OwnInts base w' g xs :=
  World.ownsRow.kept h hg (own_ne h hr (by decide))
theorem nums_same (k : Int) (zs : List Int) : nums k zs.length = nums k (nums k zs.length).length := by rw [nums_length]
set_option maxRecDepth 20000 in
set_option maxHeartbeats 4000000 in
theorem law5_c (v : Value) (m : MachD) (n : Int) (w : World) (h : Mach w v m) (hT : Tab w) :
    Calls Tryd.prog 5 #[v, .int .i64 n] w fun e w' => e = .returned (.bool true) ∧ Ext w w' := by
  obtain ⟨rv, rfl, hr⟩ := h
  obtain ⟨Ar, cr, rfl, h3, h3'⟩ := hr.form
  have bM := Blk.new w w.heap.size 24 #[.int .i64 m.sy, .int .i64 m.st, .slice Ar m.rules.length cr] rfl
  have hx0 := Ext.alloc w (.cells #[.int .i64 m.sy, .int .i64 m.st, .slice Ar m.rules.length cr] 24)
  go_enter Tryd.func5, Tryd.ntmps5
  go_wp2_with fail
  refine (szMachine_c _ m _ _ ⟨_, rfl, hr.ext hx0⟩ (by omega) (by omega)).mono ?_
  rintro e w1 ⟨rfl, hx1⟩
  by_cases hbig : (1048576 : Int) < m.rules.length
  · rw [if_pos hbig]
    go_wp2
    go_ret
    exact ⟨rfl, hx0.trans hx1⟩
  · rw [if_neg hbig]
    have hlen : m.rules.length ≤ 1048576 := by omega
    have hX1 := hx0.trans hx1
    have b1 := bM.ext hx1
    have c0 := b1.cell 0
    have c1 := b1.cell 1
    have c2 := b1.cell 2
    simp only [List.getElem?_toArray, List.getElem?_cons_zero, List.getElem?_cons_succ] at c0 c1 c2
    go_wp2_with fail
    refine (toMachine_c _ m _ ⟨_, rfl, hr.ext hX1⟩ hlen).mono ?_
    rintro e w2 ⟨rv2, rfl, ho2, hx2⟩
    have hX2 := hX1.trans hx2
    go_wp2_with fail
    refine (specFind_c _ m n w2 ⟨_, rfl, ho2.rules⟩).mono ?_
    rintro e w3 ⟨⟨p, c, nv3, rfl, hans, hws, hns, ho3⟩, hx3⟩
    have HANS := Lib.hid hans
    have HWS := Lib.hid hws
    obtain ⟨A3, d3, rfl, _, _⟩ := ho3.ints.form
    obtain ⟨W3, hW3⟩ : ∃ W, W = w3.alloc (.cells #[.int .i64 p.k, .slice A3 p.ns.length d3, .slice none 0 0] 43) := ⟨_, rfl⟩
    have hxW3 : Ext w3 W3 := by rw [hW3]; exact Ext.alloc _ _
    have bS : Blk W3 w3.heap.size 43 #[.int .i64 p.k, .slice A3 p.ns.length d3, .slice none 0 0] := by rw [hW3]; exact Blk.new _ _ _ _ rfl
    have hX3 := (hX2.trans hx3).trans hxW3
    have b3 := b1.ext ((hx2.trans hx3).trans hxW3)
    have oS := ho3.ints.ext hxW3
    clear c0 c1 c2 hans hws
    have c0 := b3.cell 0
    have c1 := b3.cell 1
    have c2 := b3.cell 2
    simp only [List.getElem?_toArray, List.getElem?_cons_zero, List.getElem?_cons_succ] at c0 c1 c2
    rw [hW3] at c0 c1 c2
    go_wp2_with fail
    rw [← hW3]
    clear hW3 c0 c1 c2
    refine (toMachine_c _ m _ ⟨_, rfl, hr.ext hX3⟩ hlen).mono ?_
    rintro e w5 ⟨rv5, rfl, ho5, hx5⟩
    obtain ⟨A5, d5, rfl, _, _⟩ := ho5.rules.form
    obtain ⟨W5, hW5⟩ : ∃ W, W = w5.alloc (.cells #[.int .i64 m.sy, .int .i64 m.st, .slice A5 m.rules.length d5] 31) := ⟨_, rfl⟩
    have hxW5 : Ext w5 W5 := by rw [hW5]; exact Ext.alloc _ _
    have bX : Blk W5 w5.heap.size 31 #[.int .i64 m.sy, .int .i64 m.st, .slice A5 m.rules.length d5] := by rw [hW5]; exact Blk.new _ _ _ _ rfl
    have hE5 := hx5.trans hxW5
    have oX := ho5.ext hxW5
    go_wp2_with fail
    rw [← hW5]
    clear hW5
    refine (FindSegment_c _ m n W5 ⟨_, rfl, oX.rules⟩ (hT.below hT.low (hX3.trans hE5))).mono ?_
    rintro e w7 ⟨⟨p7, c7, nv7, rfl, hans7, _, _, ho7⟩, hx7⟩
    obtain ⟨rfl, rfl⟩ := hans7.unique HANS.out
    clear hans7
    obtain ⟨A7, d7, rfl, _, _⟩ := ho7.ints.form
    obtain ⟨W7, hW7⟩ : ∃ W, W = w7.alloc (.cells #[.int .i64 p7.k, .slice A7 p7.ns.length d7, .slice none 0 0] 43) := ⟨_, rfl⟩
    have hxW7 : Ext w7 W7 := by rw [hW7]; exact Ext.alloc _ _
    have bG : Blk W7 w7.heap.size 43 #[.int .i64 p7.k, .slice A7 p7.ns.length d7, .slice none 0 0] := by rw [hW7]; exact Blk.new _ _ _ _ rfl
    have hE7 := hE5.trans (hx7.trans hxW7)
    have oG := ho7.ext hxW7
    have bS7 := bS.ext hE7
    have oS7 := oS.ext hE7
    have bX7 := bX.ext (hx7.trans hxW7)
    have hPg : Prf W7 (.agg #[.int .i64 p7.k, .slice A7 p7.ns.length d7, .slice none 0 0]) p7 := ⟨_, _, rfl, oG.ints, by rw [HWS.out]; exact (rows_nil 0 _).rows⟩
    have hPs : Prf W7 (.agg #[.int .i64 p7.k, .slice A3 p7.ns.length d3, .slice none 0 0]) p7 := ⟨_, _, rfl, oS7, by rw [HWS.out]; exact (rows_nil 0 _).rows⟩
    have hdp : decide (p7 = p7) = true := by simp
    have hcc : (c7 != c7) = false := by simp
    have c0 := bS7.cell 0
    have c1 := bS7.cell 1
    have c2 := bS7.cell 2
    simp only [List.getElem?_toArray, List.getElem?_cons_zero, List.getElem?_cons_succ] at c0 c1 c2
    rw [hW7] at c0 c1 c2
    go_wp2_with fail
    rw [← hW7]
    clear hW7 c0 c1 c2
    refine (eqProof_c _ _ _ p7 p7 hPg hPs).mono ?_
    rintro e w8 ⟨rfl, hx8⟩
    have c0 := (bX7.ext hx8).cell 0
    have c1 := (bX7.ext hx8).cell 1
    have c2 := (bX7.ext hx8).cell 2
    have d0 := ((b3.ext hE7).ext hx8).cell 0
    have d1 := ((b3.ext hE7).ext hx8).cell 1
    have d2 := ((b3.ext hE7).ext hx8).cell 2
    simp only [List.getElem?_toArray, List.getElem?_cons_zero, List.getElem?_cons_succ] at c0 c1 c2 d0 d1 d2
    have hMr : Mach w8.drew (.agg #[.int .i64 m.sy, .int .i64 m.st, .slice Ar m.rules.length cr]) m := ⟨_, rfl, ((hr.ext (hX3.trans hE7)).ext hx8).ext (Ext.drew _)⟩
    have hMx : Mach w8 (.agg #[.int .i64 m.sy, .int .i64 m.st, .slice A5 m.rules.length d5]) m := ⟨_, rfl, (oX.rules.ext (hx7.trans hxW7)).ext hx8⟩
    have hdm : decide (m = m) = true := by simp
    go_wp2_with fail
    go_region_held3 (fun w' => w'.cell? ⟨w5.heap.size, 0, none⟩ = some (.int .i64 m.sy) ∧ w'.cell? ⟨w5.heap.size, 1, none⟩ = some (.int .i64 m.st) ∧ w'.cell? ⟨w5.heap.size, 2, none⟩ = some (.slice A5 m.rules.length d5) ∧ w'.cell? ⟨w.heap.size, 0, none⟩ = some (.int .i64 m.sy) ∧ w'.cell? ⟨w.heap.size, 1, none⟩ = some (.int .i64 m.st) ∧ w'.cell? ⟨w.heap.size, 2, none⟩ = some (.slice Ar m.rules.length cr))
      (first | go_keep | exact ⟨hx9.cell c0, hx9.cell c1, hx9.cell c2, hx9.cell d0, hx9.cell d1, hx9.cell d2⟩ | exact ⟨hx10.cell c0, hx10.cell c1, hx10.cell c2, hx10.cell d0, hx10.cell d1, hx10.cell d2⟩)
      (first
        | (go_at_call 8; ((with_reducible refine (toMachine_c _ m _ hMr hlen).mono ?_)); rintro e w9 ⟨rv9, rfl, ho9, hx9'⟩; have hx9 := (Ext.drew w8).trans hx9'; have hM9 : Mach w9 (.agg #[.int .i64 m.sy, .int .i64 m.st, rv9]) m := ⟨_, rfl, ho9.rules⟩; have hM9x := hMx.ext hx9)
        | (go_at_call 11; ((with_reducible refine (eqMachine_c _ _ _ m m hM9x hM9).mono ?_)); rintro e w10 ⟨rfl, hx10'⟩; have hx10 := hx9.trans hx10'))
    all_goals
      have hxA := hx8.trans hx10
      have hE10 := hE7.trans hxA
      have o10 := (oX.ext (hx7.trans hxW7)).ext hxA
      have g10 := oG.ext hxA
      have e0 := (bX7.ext hxA).cell 0
      have e1 := (bX7.ext hxA).cell 1
      have e2 := (bX7.ext hxA).cell 2
      simp only [List.getElem?_toArray, List.getElem?_cons_zero, List.getElem?_cons_succ] at e0 e1 e2
      clear c0 c1 c2 d0 d1 d2
      go_wp2_with fail
      refine (markMachine_c W3.heap.size m.sy m.st _ m.rules 1 _ o10 hE10.size (by omega) (by omega)).mono ?_
      rintro e w11 ⟨rfl, hb11, hg11⟩
      have hE11 : Ext W3 w11 := Below.trans hE10 hb11
      have g11 := g10.kept' o10 hg11
      have bG11 := Blk.apart (bG.ext hxA) o10 (by decide) hg11
      have bS11 := bS.ext hE11
      have hk1 : decide ((1 : Int) + 3 * (m.rules.length : Int) < 0) = false := by simp; omega
      clear e0 e1 e2
      have c0 := bG11.cell 0
      have c1 := bG11.cell 1
      have c2 := bG11.cell 2
      have d0 := bS11.cell 0
      have d1 := bS11.cell 1
      have d2 := bS11.cell 2
      simp only [List.getElem?_toArray, List.getElem?_cons_zero, List.getElem?_cons_succ] at c0 c1 c2 d0 d1 d2
      have hPg1 : Prf w11 (.agg #[.int .i64 p7.k, .slice A7 p7.ns.length d7, .slice none 0 0]) p7 := ⟨_, _, rfl, g11.ints, by rw [HWS.out]; exact (rows_nil 0 _).rows⟩
      have hPs1 : Prf w11 (.agg #[.int .i64 p7.k, .slice A3 p7.ns.length d3, .slice none 0 0]) p7 := ⟨_, _, rfl, oS.ext hE11, by rw [HWS.out]; exact (rows_nil 0 _).rows⟩
      go_wp2_with fail
      refine (eqProof_c _ _ _ p7 p7 hPg1 hPs1).mono ?_
      rintro e w12 ⟨rfl, hx12⟩
      have hE12 := hE11.trans hx12
      have bG12 := bG11.ext hx12
      clear c0 c1 c2 d0 d1 d2
      have c0 := bG12.cell 0
      have c1 := bG12.cell 1
      have c2 := bG12.cell 2
      simp only [List.getElem?_toArray, List.getElem?_cons_zero, List.getElem?_cons_succ] at c0 c1 c2
      have hsz12 : W5.heap.size ≤ w12.heap.size := by have a1 := (hx7.trans hxW7).size; have a2 := hxA.size; have a3 := hb11.size; have a4 := hx12.size; omega
      have oG12 := g11.ext hx12
      go_wp2_with fail
      refine (markProof_c W5.heap.size p7.k _ p7.ns 1 _ oG12 hsz12 (by omega) (by omega)).mono ?_
      rintro e w13 ⟨rfl, g13, hb13, hg13⟩
      have hE13 : Ext W3 w13 := Below.trans hE12 (Below.mono hb13 hE5.size)
      have bG13 := Blk.apart bG12 oG12 (by decide) hg13
      clear c0 c1 c2
      have c0 := bG13.cell 0
      have c1 := bG13.cell 1
      have c2 := bG13.cell 2
      simp only [List.getElem?_toArray, List.getElem?_cons_zero, List.getElem?_cons_succ] at c0 c1 c2
      have i13 : Ints w13 (.slice A7 p7.ns.length d7) (nums 1 p7.ns.length) := by
        have := g13.ints
        exact this
      have hnl := nums_length 1 p7.ns.length
      have HNS := Lib.hid (nums_same 1 p7.ns)
      have HNL := Lib.hid hnl
      clear hnl
      go_wp2_with fail
      refine (heldProof_c p7.k _ (nums 1 p7.ns.length) 1 _ i13 (by omega) (by rw [HNL.out]; omega) HNS.out).mono ?_
      rintro e w14 ⟨rfl, hx14⟩
      rw [HNL.out]
      have hk2 : decide ((1 : Int) + (p7.ns.length : Int) < 0) = false := by simp; omega
      have hE14 := hE13.trans hx14
      have b14 := b3.ext hE14
      have d0 := b14.cell 0
      have d1 := b14.cell 1
      have d2 := b14.cell 2
      simp only [List.getElem?_toArray, List.getElem?_cons_zero, List.getElem?_cons_succ] at d0 d1 d2
      clear c0 c1 c2
      go_wp2_with fail
      refine (toMachine_c _ m _ ⟨_, rfl, hr.ext (hX3.trans hE14)⟩ hlen).mono ?_
      rintro e w15 ⟨rv15, rfl, ho15, hx15⟩
      have hE15 := hE14.trans hx15
      clear d0 d1 d2
      go_wp2_with fail
      refine (FindSegment_c _ m n w15 ⟨_, rfl, ho15.rules⟩ (hT.below hT.low (hX3.trans hE15))).mono ?_
      rintro e w16 ⟨⟨p16, c16, nv16, rfl, hans16, _, _, ho16⟩, hx16⟩
      obtain ⟨hpe, hce⟩ := hans16.unique HANS.out
      rw [hpe] at ho16 ⊢
      rw [hce]
      clear hans16 hpe hce
      have hE16 := hE15.trans hx16
      obtain ⟨A16, d16, rfl, _, _⟩ := ho16.ints.form
      obtain ⟨V, hV⟩ : ∃ W, W = w16.alloc (.cells #[.int .i64 p7.k, .slice A16 p7.ns.length d16, .slice none 0 0] 43) := ⟨_, rfl⟩
      have hxV : Ext w16 V := by rw [hV]; exact Ext.alloc _ _
      have hEV := hE16.trans hxV
      have hPh : Prf V (.agg #[.int .i64 p7.k, .slice A16 p7.ns.length d16, .slice none 0 0]) p7 := ⟨_, _, rfl, ho16.ints.ext hxV, by rw [HWS.out]; exact (rows_nil 0 _).rows⟩
      have hPs2 : Prf V (.agg #[.int .i64 p7.k, .slice A3 p7.ns.length d3, .slice none 0 0]) p7 := ⟨_, _, rfl, oS.ext hEV, by rw [HWS.out]; exact (rows_nil 0 _).rows⟩
      have bSV := bS.ext hEV
      have d0 := bSV.cell 0
      have d1 := bSV.cell 1
      have d2 := bSV.cell 2
      simp only [List.getElem?_toArray, List.getElem?_cons_zero, List.getElem?_cons_succ] at d0 d1 d2
      rw [hV] at d0 d1 d2
      go_wp2_with fail
      rw [← hV]
      clear hV d0 d1 d2
      refine (eqProof_c _ _ _ p7 p7 hPh hPs2).mono ?_
      rintro e w17 ⟨rfl, hx17⟩
      have hLast := ((hx14.trans hx15).trans hx16).trans (hxV.trans hx17)
      have bG17 := bG13.ext hLast
      have c0 := bG17.cell 0
      have c1 := bG17.cell 1
      have c2 := bG17.cell 2
      simp only [List.getElem?_toArray, List.getElem?_cons_zero, List.getElem?_cons_succ] at c0 c1 c2
      go_wp2_with fail
      refine (heldProof_c p7.k _ (nums 1 p7.ns.length) 1 _ (i13.ext hLast) (by omega) (by rw [HNL.out]; omega) HNS.out).mono ?_
      rintro e w18 ⟨rfl, hx18⟩
      rw [HNL.out]
      go_wp2
      go_ret
      exact ⟨rfl, ((hX3.trans hE13).trans hLast).trans hx18⟩
end Go.Proofs.YtdkdmcaehinkhaaDoor
