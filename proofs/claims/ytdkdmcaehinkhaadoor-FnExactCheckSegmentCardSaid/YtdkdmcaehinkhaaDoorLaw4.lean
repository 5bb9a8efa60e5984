/- The reference's check of a proof by segments, and the walk of the law on both checks. -/
import Derived.Test.YtdkdmcaehinkhaaDoorCheck
import Derived.Deep.RegionHeld3
namespace Go.Proofs.YtdkdmcaehinkhaaDoor
open Go Go.RowKit Go.Proofs
set_option maxHeartbeats 400000
set_option maxRecDepth 20000 in
set_option maxHeartbeats 1000000 in
theorem specCheck_c (v u : Value) (m : MachD) (p : ProofD) (w : World) (hm : Mach w v m) (hp : Prf w u p) :
    Calls Tryd.prog 16 #[v, u] w (ChkRes w m p) := by
  obtain ⟨rv, rfl, hr⟩ := hm
  obtain ⟨nv, wv, rfl, hn, hw⟩ := hp
  obtain ⟨Ar, cr, rfl, _, _⟩ := hr.form
  obtain ⟨An, cn, rfl, _, _⟩ := hn.form
  obtain ⟨Aw, cw, rfl, _, _⟩ := hw.form
  have hx0 := (Ext.alloc w (.cells #[.int .i64 m.sy, .int .i64 m.st, .slice Ar m.rules.length cr] 31)).trans (Ext.alloc _ (.cells #[.int .i64 p.k, .slice An p.ns.length cn, .slice Aw p.ws.length cw] 43))
  have bM := (Blk.new w w.heap.size 31 #[.int .i64 m.sy, .int .i64 m.st, .slice Ar m.rules.length cr] rfl).alloc (.cells #[.int .i64 p.k, .slice An p.ns.length cn, .slice Aw p.ws.length cw] 43)
  have bP := Blk.new (w.alloc (.cells #[.int .i64 m.sy, .int .i64 m.st, .slice Ar m.rules.length cr] 31)) (w.heap.size + 1) 43 #[.int .i64 p.k, .slice An p.ns.length cn, .slice Aw p.ws.length cw] (by simp)
  have g0 := bM.cell 0
  have g1 := bM.cell 1
  have g2 := bM.cell 2
  simp only [List.getElem?_toArray, List.getElem?_cons_zero, List.getElem?_cons_succ] at g0 g1 g2
  have HMA := Lib.hid (show MachAt _ w.heap.size m from ⟨_, g0, g1, g2, hr.ext hx0⟩)
  clear g0 g1 g2
  have hno : ∀ w', Ext w w' → chkPre m p = false → ChkRes w m p (.returned (.bool false)) w' := fun w' hx h => ⟨⟨false, rfl, .inl ⟨h, rfl⟩⟩, hx⟩
  have HNO := Lib.hid hno
  clear hno
  go_enter Tryd.func16, Tryd.ntmps16
  go_wp2_with fail
  refine (l05Is_c _ m _ HMA.out).mono ?_
  rintro e w1 ⟨rfl, hx1⟩
  have hX1 := hx0.trans hx1
  have b1 := bP.ext hx1
  have c0 := b1.cell 0
  have c1 := b1.cell 1
  have c2 := b1.cell 2
  simp only [List.getElem?_toArray, List.getElem?_cons_zero, List.getElem?_cons_succ] at c0 c1 c2
  cases h1 : machOk m with
  | false =>
    have HE : Hid (chkPre m p = false) := by unfold Hid; simp [chkPre, h1]
    clear h1
    go_wp2
    go_ret
    exact HNO.out _ hX1 HE.out
  | true =>
    have H1 := Lib.hid h1
    clear h1
    cases h2 : (p.k == 5) with
    | false =>
      have h2' : (p.k != 5) = true := by simp [bne, h2]
      have HE : Hid (chkPre m p = false) := by unfold Hid; simp [chkPre, h2]
      clear h2
      go_wp2
      go_ret
      exact HNO.out _ hX1 HE.out
    | true =>
      have h2' : (p.k != 5) = false := by simp [bne, h2]
      have H2 := Lib.hid h2
      clear h2
      cases h3 : ((p.ns.length : Int) == 1) with
      | false =>
        have h3' : ((p.ns.length : Int) != 1) = true := by simp [bne, h3]
        have HE : Hid (chkPre m p = false) := by unfold Hid; simp [chkPre, h3]
        clear h3
        go_wp2
        go_ret
        exact HNO.out _ hX1 HE.out
      | true =>
        have h3' : ((p.ns.length : Int) != 1) = false := by simp [bne, h3]
        have H3 := Lib.hid h3
        have hl0 : 0 < p.ns.length := by simp at h3; omega
        have hi0 : (0 : Int) < (p.ns.length : Int) := by omega
        clear h3
        cases h4 : ((p.ws.length : Int) == 0) with
        | false =>
          have h4' : ((p.ws.length : Int) != 0) = true := by simp [bne, h4]
          have HE : Hid (chkPre m p = false) := by unfold Hid; simp [chkPre, h4]
          clear h4
          go_wp2
          go_ret
          exact HNO.out _ hX1 HE.out
        | true =>
          have h4' : ((p.ws.length : Int) != 0) = false := by simp [bne, h4]
          have H4 := Lib.hid h4
          clear h4
          obtain ⟨b', off, rfl, hc⟩ := (hn.ext hX1).at hl0
          have d0 : w1.cell? ⟨b', off, none⟩ = some (.int .i64 p.ns[0]) := hc 0 hl0
          have HZ : Hid (p.ns.getD 0 0 = p.ns[0]) := by unfold Hid; rw [List.getD_eq_getElem?_getD, List.getElem?_eq_getElem hl0]; rfl
          clear hc
          generalize p.ns[0] = z at *
          go_wp2_with fail
          refine (l00In_c _ _ _ _).mono ?_
          rintro e w' ⟨rfl, rfl⟩
          cases h5 : inB z 1 9 with
          | false =>
            have HE : Hid (chkPre m p = false) := by unfold Hid; simp only [chkPre, HZ.out, h5]; simp
            clear h5
            go_wp2
            go_ret
            exact HNO.out _ hX1 HE.out
          | true =>
            have hnn : 1 ≤ z ∧ z ≤ 9 := by simpa [inB] using h5
            have HE : Hid (chkPre m p = true) := by unfold Hid; simp only [chkPre, HZ.out, h5, H1.out, H2.out, H3.out, H4.out]; rfl
            clear h5
            obtain ⟨nn, hnE⟩ : ∃ nn : Nat, z = (nn : Int) := ⟨z.toNat, by omega⟩
            subst hnE
            have n1 : 1 ≤ nn := by omega
            have n2 : nn ≤ 9 := by omega
            clear hnn
            go_wp2_with fail
            refine (l26Find_c w.heap.size m _ nn 2001 false w1 (bM.ext hx1) (hr.ext hX1) (MOk.of H1.out) n1 n2).mono ?_
            rintro e w2 ⟨k, hend, ⟨u, rfl, ho⟩, hx2⟩
            have HEN := Lib.hid (ends_of_find hend)
            have hX2 := hX1.trans hx2
            have HZ2 : Hid ((p.ns.getD 0 0).toNat = nn) := by unfold Hid; rw [HZ.out]; simp
            have hng := HEN.out.2
            unfold goesS at hng
            obtain ⟨s, hs⟩ : ∃ s, iterS m nn k = s := ⟨_, rfl⟩
            have HS := Lib.hid hs
            rw [hs] at ho hng ⊢
            have HR : Hid (ChkAns m p (decide (s.1.length ≤ 2000) && !s.2)) := .inr ⟨HE.out, k, by rw [HZ2.out]; exact HEN.out, by rw [HZ2.out, HS.out]⟩
            clear hs hend ho
            generalize (if k < s.1.length then (k : Int) else (s.1.length : Int)) = st
            by_cases hl : s.1.length ≤ 2000
            · have hall : (!decide (k < s.1.length) && decide (s.1.length ≤ 2000)) = true := by simp; omega
              rw [hall]
              have e2 : (decide (s.1.length ≤ 2000) && !s.2) = !s.2 := by simp [hl]
              rw [e2] at HR
              clear hall e2
              go_wp2
              go_ret
              exact ⟨⟨_, rfl, HR.out⟩, hX2⟩
            · have hall : (!decide (k < s.1.length) && decide (s.1.length ≤ 2000)) = false := by simp; omega
              rw [hall]
              have e2 : (decide (s.1.length ≤ 2000) && !s.2) = false := by simp [hl]
              rw [e2] at HR
              clear hall e2
              go_wp2
              go_ret
              exact ⟨⟨_, rfl, HR.out⟩, hX2⟩
set_option maxRecDepth 20000 in
set_option maxHeartbeats 4000000 in
theorem law4_c (v u : Value) (m : MachD) (p : ProofD) (w : World) (h : Mach w v m) (hp : Prf w u p) (hT : Tab w) :
    Calls Tryd.prog 4 #[v, u] w fun e w' => e = .returned (.bool true) ∧ Ext w w' := by
  obtain ⟨rv, rfl, hr⟩ := h
  obtain ⟨nv, wv, rfl, hn, hw⟩ := hp
  obtain ⟨Ar, cr, rfl, h3, h3'⟩ := hr.form
  obtain ⟨An, cn, rfl, _, _⟩ := hn.form
  obtain ⟨Aw, cw, rfl, _, _⟩ := hw.form
  have hx0 := (Ext.alloc w (.cells #[.int .i64 m.sy, .int .i64 m.st, .slice Ar m.rules.length cr] 24)).trans (Ext.alloc _ (.cells #[.int .i64 p.k, .slice An p.ns.length cn, .slice Aw p.ws.length cw] 40))
  have bM := (Blk.new w w.heap.size 24 #[.int .i64 m.sy, .int .i64 m.st, .slice Ar m.rules.length cr] rfl).alloc (.cells #[.int .i64 p.k, .slice An p.ns.length cn, .slice Aw p.ws.length cw] 40)
  have bP := Blk.new (w.alloc (.cells #[.int .i64 m.sy, .int .i64 m.st, .slice Ar m.rules.length cr] 24)) (w.heap.size + 1) 40 #[.int .i64 p.k, .slice An p.ns.length cn, .slice Aw p.ws.length cw] (by simp)
  go_enter Tryd.func4, Tryd.ntmps4
  go_wp2_with fail
  refine (szMachine_c _ m _ _ ⟨_, rfl, hr.ext hx0⟩ (by omega) (by omega)).mono ?_
  rintro e w1 ⟨rfl, hx1⟩
  by_cases hbig : (1048576 : Int) < m.rules.length
  · rw [if_pos hbig]
    go_wp2
    go_ret
    exact ⟨rfl, hx0.trans hx1⟩
  · rw [if_neg hbig]
    have hlen : m.rules.length ≤ 1048576 := by omega
    have hX1 := hx0.trans hx1
    have bP1 := bP.ext hx1
    have c0 := bP1.cell 0
    have c1 := bP1.cell 1
    have c2 := bP1.cell 2
    simp only [List.getElem?_toArray, List.getElem?_cons_zero, List.getElem?_cons_succ] at c0 c1 c2
    clear hbig
    go_wp2_with fail
    refine (szProof_c _ p _ _ ⟨_, _, rfl, hn.ext hX1, hw.ext hX1⟩ (by omega) (by omega)).mono ?_
    rintro e w2 ⟨rfl, hx2⟩
    have hX2 := hX1.trans hx2
    clear c0 c1 c2
    by_cases hbig : (1048576 - (m.rules.length : Int)) < prfSize p
    · rw [szF_no hbig]
      go_wp2
      go_ret
      exact ⟨rfl, hX2⟩
    · rw [szF_yes hbig]
      have hsz : prfSize p ≤ 1048576 := by omega
      have hpos : 0 ≤ 1048576 - (m.rules.length : Int) - (prfSize p : Int) := by omega
      generalize 1048576 - (m.rules.length : Int) - (prfSize p : Int) = lf at *
      have bM2 := (bM.ext hx1).ext hx2
      have bP2 := bP1.ext hx2
      have c0 := bM2.cell 0
      have c1 := bM2.cell 1
      have c2 := bM2.cell 2
      have d0 := bP2.cell 0
      have d1 := bP2.cell 1
      have d2 := bP2.cell 2
      simp only [List.getElem?_toArray, List.getElem?_cons_zero, List.getElem?_cons_succ] at c0 c1 c2 d0 d1 d2
      have hM0 : Mach w2.drew (.agg #[.int .i64 m.sy, .int .i64 m.st, .slice Ar m.rules.length cr]) m := ⟨_, rfl, (hr.ext hX2).ext (Ext.drew _)⟩
      have hP0 : Prf w2.drew (.agg #[.int .i64 p.k, .slice An p.ns.length cn, .slice Aw p.ws.length cw]) p := ⟨_, _, rfl, (hn.ext hX2).ext (Ext.drew _), (hw.ext hX2).ext (Ext.drew _)⟩
      clear hbig bM bP bP1 hx0
      go_wp2_with fail
      go_region_held3 (fun w' => w'.cell? ⟨w.heap.size, 0, none⟩ = some (.int .i64 m.sy) ∧ w'.cell? ⟨w.heap.size, 1, none⟩ = some (.int .i64 m.st) ∧ w'.cell? ⟨w.heap.size, 2, none⟩ = some (.slice Ar m.rules.length cr) ∧ w'.cell? ⟨w.heap.size + 1, 0, none⟩ = some (.int .i64 p.k) ∧ w'.cell? ⟨w.heap.size + 1, 1, none⟩ = some (.slice An p.ns.length cn) ∧ w'.cell? ⟨w.heap.size + 1, 2, none⟩ = some (.slice Aw p.ws.length cw))
        (first | go_keep | exact ⟨hC.cell c0, hC.cell c1, hC.cell c2, hC.cell d0, hC.cell d1, hC.cell d2⟩ | exact ⟨hB.cell c0, hB.cell c1, hB.cell c2, hB.cell d0, hB.cell d1, hB.cell d2⟩ | exact ⟨hA.cell c0, hA.cell c1, hA.cell c2, hA.cell d0, hA.cell d1, hA.cell d2⟩)
        (first
          | (go_at_call 8; ((with_reducible refine (toMachine_c _ m _ hM0 hlen).mono ?_)); rintro e wA ⟨rvA, rfl, hoA, hxA⟩; have hA := (Ext.drew w2).trans hxA; have hMA : Mach wA (.agg #[.int .i64 m.sy, .int .i64 m.st, rvA]) m := ⟨_, rfl, hoA.rules⟩; have hP1 := hP0.ext hxA)
          | (go_at_call 8; ((with_reducible refine (toMachine_c _ m _ hM1 hlen).mono ?_)); rintro e wA ⟨rvA, rfl, hoA, hxA⟩; have hA := hB.trans hxA; have hMf : Mach wA (.agg #[.int .i64 m.sy, .int .i64 m.st, rvA]) m := ⟨_, rfl, hoA.rules⟩; have hPf := hPB.ext hxA; have hAB := hA)
          | (go_at_call 17; ((with_reducible refine (toProof_c _ p _ hP0 hsz).mono ?_)); rintro e wB ⟨nvB, wvB, rfl, hnB, hwB, hxB⟩; have hB := (Ext.drew w2).trans hxB; have hPB : Prf wB (.agg #[.int .i64 p.k, nvB, wvB]) p := ⟨_, _, rfl, hnB.ints, hwB.rows⟩; have hM1 := hM0.ext hxB)
          | (go_at_call 17; ((with_reducible refine (toProof_c _ p _ hP1 hsz).mono ?_)); rintro e wB ⟨nvB, wvB, rfl, hnB, hwB, hxB⟩; have hB := hA.trans hxB; have hPf : Prf wB (.agg #[.int .i64 p.k, nvB, wvB]) p := ⟨_, _, rfl, hnB.ints, hwB.rows⟩; have hMf := hMA.ext hxB; have hAB := hB)
          | (go_at_call 16; ((with_reducible refine (specCheck_c _ _ m p _ hMf hPf).mono ?_)); rintro e wC ⟨⟨r, rfl, hans⟩, hxC⟩; have hC := hAB.trans hxC))
      all_goals
        have HANS := Lib.hid hans
        have hXC := hX2.trans hC
        have bMC := bM2.ext hC
        have bPC := bP2.ext hC
        clear hans hxC c0 c1 c2 d0 d1 d2 hM0 hP0
        have c0 := bMC.cell 0
        have c1 := bMC.cell 1
        have c2 := bMC.cell 2
        simp only [List.getElem?_toArray, List.getElem?_cons_zero, List.getElem?_cons_succ] at c0 c1 c2
        go_wp2_with fail
        refine (toMachine_c _ m _ ⟨_, rfl, hr.ext hXC⟩ hlen).mono ?_
        rintro e w5 ⟨rv5, rfl, ho5, hx5⟩
        obtain ⟨A5, c5, rfl, _, _⟩ := ho5.rules.form
        have HB1 : ∃ W, W = w5.alloc (.cells #[.int .i64 m.sy, .int .i64 m.st, .slice A5 m.rules.length c5] 31) := ⟨_, rfl⟩
        obtain ⟨W, hW⟩ := HB1
        have hXW : Ext w5 W := by rw [hW]; exact Ext.alloc _ _
        have bW : Blk W w5.heap.size 31 #[.int .i64 m.sy, .int .i64 m.st, .slice A5 m.rules.length c5] := by rw [hW]; exact Blk.new _ _ _ _ rfl
        have hE5 := hx5.trans hXW
        have hX5 := hXC.trans hE5
        have bP5 := bPC.ext hE5
        have oW := ho5.ext hXW
        have d0 := bP5.cell 0
        have d1 := bP5.cell 1
        have d2 := bP5.cell 2
        simp only [List.getElem?_toArray, List.getElem?_cons_zero, List.getElem?_cons_succ] at d0 d1 d2
        rw [hW] at d0 d1 d2
        clear c0 c1 c2
        go_wp2_with fail
        rw [← hW]
        clear hW
        refine (toProof_c _ p _ ⟨_, _, rfl, hn.ext hX5, hw.ext hX5⟩ hsz).mono ?_
        rintro e w6 ⟨nv6, wv6, rfl, hn6, hw6, hx6⟩
        obtain ⟨A6, c6, rfl, _, _⟩ := hn6.ints.form
        obtain ⟨A7, c7, rfl, _, _⟩ := hw6.rows.form
        have HB2 : ∃ V, V = w6.alloc (.cells #[.int .i64 p.k, .slice A6 p.ns.length c6, .slice A7 p.ws.length c7] 43) := ⟨_, rfl⟩
        obtain ⟨V, hV⟩ := HB2
        have hXV : Ext w6 V := by rw [hV]; exact Ext.alloc _ _
        have bV : Blk V w6.heap.size 43 #[.int .i64 p.k, .slice A6 p.ns.length c6, .slice A7 p.ws.length c7] := by rw [hV]; exact Blk.new _ _ _ _ rfl
        have hE6 := hx6.trans hXV
        have hX6 := hX5.trans hE6
        have bW6 := bW.ext hE6
        have oM := oW.ext hE6
        have oN := hn6.ext hXV
        have oWs := hw6.ext hXV
        have c0 := bW6.cell 0
        have c1 := bW6.cell 1
        have c2 := bW6.cell 2
        simp only [List.getElem?_toArray, List.getElem?_cons_zero, List.getElem?_cons_succ] at c0 c1 c2
        rw [hV] at c0 c1 c2
        clear d0 d1 d2
        go_wp2_with fail
        rw [← hV]
        clear hV
        refine (CheckSegment_c _ _ m p V ⟨_, rfl, oM.rules⟩ ⟨_, _, rfl, oN.ints, oWs.rows⟩ (hT.below hT.low hX6)).mono ?_
        rintro e w7 ⟨⟨r7, rfl, hans7⟩, hx7⟩
        obtain rfl := hans7.unique HANS.out
        clear hans7
        have hX7 := hX6.trans hx7
        have bW7 := bW6.ext hx7
        have bV7 := bV.ext hx7
        have bM7 := bMC.ext ((hE5.trans hE6).trans hx7)
        have bP7 := bPC.ext ((hE5.trans hE6).trans hx7)
        clear c0 c1 c2
        have c0 := bW7.cell 0
        have c1 := bW7.cell 1
        have c2 := bW7.cell 2
        have d0 := bM7.cell 0
        have d1 := bM7.cell 1
        have d2 := bM7.cell 2
        simp only [List.getElem?_toArray, List.getElem?_cons_zero, List.getElem?_cons_succ] at c0 c1 c2 d0 d1 d2
        have hMr : Mach w7.drew (.agg #[.int .i64 m.sy, .int .i64 m.st, .slice Ar m.rules.length cr]) m := ⟨_, rfl, (hr.ext hX7).ext (Ext.drew _)⟩
        have hMx : Mach w7 (.agg #[.int .i64 m.sy, .int .i64 m.st, .slice A5 m.rules.length c5]) m := ⟨_, rfl, oM.rules.ext hx7⟩
        have hdm : decide (m = m) = true := by simp
        have hrr : (r7 != r7) = false := by simp
        go_wp2_with fail
        go_region_held3 (fun w' => w'.cell? ⟨w5.heap.size, 0, none⟩ = some (.int .i64 m.sy) ∧ w'.cell? ⟨w5.heap.size, 1, none⟩ = some (.int .i64 m.st) ∧ w'.cell? ⟨w5.heap.size, 2, none⟩ = some (.slice A5 m.rules.length c5) ∧ w'.cell? ⟨w.heap.size, 0, none⟩ = some (.int .i64 m.sy) ∧ w'.cell? ⟨w.heap.size, 1, none⟩ = some (.int .i64 m.st) ∧ w'.cell? ⟨w.heap.size, 2, none⟩ = some (.slice Ar m.rules.length cr))
          (first | go_keep | exact ⟨hx9.cell c0, hx9.cell c1, hx9.cell c2, hx9.cell d0, hx9.cell d1, hx9.cell d2⟩ | exact ⟨hx10.cell c0, hx10.cell c1, hx10.cell c2, hx10.cell d0, hx10.cell d1, hx10.cell d2⟩)
          (first
            | (go_at_call 8; ((with_reducible refine (toMachine_c _ m _ hMr hlen).mono ?_)); rintro e w9 ⟨rv9, rfl, ho9, hx9'⟩; have hx9 := (Ext.drew w7).trans hx9'; have hM9 : Mach w9 (.agg #[.int .i64 m.sy, .int .i64 m.st, rv9]) m := ⟨_, rfl, ho9.rules⟩; have hM9x := hMx.ext hx9)
            | (go_at_call 11; ((with_reducible refine (eqMachine_c _ _ _ m m hM9x hM9).mono ?_)); rintro e w10 ⟨rfl, hx10'⟩; have hx10 := hx9.trans hx10'))
        all_goals
          have hX10 := hX7.trans hx10
          have bV10 := bV7.ext hx10
          have bP10 := bP7.ext hx10
          clear c0 c1 c2 d0 d1 d2
          have c0 := bV10.cell 0
          have c1 := bV10.cell 1
          have c2 := bV10.cell 2
          have d0 := bP10.cell 0
          have d1 := bP10.cell 1
          have d2 := bP10.cell 2
          simp only [List.getElem?_toArray, List.getElem?_cons_zero, List.getElem?_cons_succ] at c0 c1 c2 d0 d1 d2
          have hPr : Prf w10.drew (.agg #[.int .i64 p.k, .slice An p.ns.length cn, .slice Aw p.ws.length cw]) p := ⟨_, _, rfl, (hn.ext hX10).ext (Ext.drew _), (hw.ext hX10).ext (Ext.drew _)⟩
          have hPx : Prf w10 (.agg #[.int .i64 p.k, .slice A6 p.ns.length c6, .slice A7 p.ws.length c7]) p := ⟨_, _, rfl, (oN.ints.ext hx7).ext hx10, (oWs.rows.ext hx7).ext hx10⟩
          have hdp : decide (p = p) = true := by simp
          go_wp2_with fail
          go_region_held3 (fun w' => w'.cell? ⟨w6.heap.size, 0, none⟩ = some (.int .i64 p.k) ∧ w'.cell? ⟨w6.heap.size, 1, none⟩ = some (.slice A6 p.ns.length c6) ∧ w'.cell? ⟨w6.heap.size, 2, none⟩ = some (.slice A7 p.ws.length c7) ∧ w'.cell? ⟨w.heap.size + 1, 0, none⟩ = some (.int .i64 p.k) ∧ w'.cell? ⟨w.heap.size + 1, 1, none⟩ = some (.slice An p.ns.length cn) ∧ w'.cell? ⟨w.heap.size + 1, 2, none⟩ = some (.slice Aw p.ws.length cw))
            (first | go_keep | exact ⟨hx11.cell c0, hx11.cell c1, hx11.cell c2, hx11.cell d0, hx11.cell d1, hx11.cell d2⟩ | exact ⟨hx12.cell c0, hx12.cell c1, hx12.cell c2, hx12.cell d0, hx12.cell d1, hx12.cell d2⟩)
            (first
              | (go_at_call 17; ((with_reducible refine (toProof_c _ p _ hPr hsz).mono ?_)); rintro e w11 ⟨nv11, wv11, rfl, hn11, hw11, hx11'⟩; have hx11 := (Ext.drew w10).trans hx11'; have hP11 : Prf w11 (.agg #[.int .i64 p.k, nv11, wv11]) p := ⟨_, _, rfl, hn11.ints, hw11.rows⟩; have hP11x := hPx.ext hx11)
              | (go_at_call 19; ((with_reducible refine (eqProof_c _ _ _ p p hP11x hP11).mono ?_)); rintro e w12 ⟨rfl, hx12'⟩; have hx12 := hx11.trans hx12'))
          all_goals
            go_wp2
            go_ret
            exact ⟨rfl, hX10.trans hx12⟩
end Go.Proofs.YtdkdmcaehinkhaaDoor
