/- Contract of the reference's node before a node. The machine is valid, the node is valid. -/
import Derived.Test.YtmffnlpndgdcjaaGreatDoorPlain
namespace Go.Proofs.YtmffnlpndgdcjaaGreatDoor
open Go Go.RowKit Go.Proofs
set_option maxHeartbeats 400000
/-- The ways through the reference's test on a valid node, with what each comes to. -/
theorem backWays {sy st : Int} {n : Nat} {x : List Int} (h : NodeOk sy st n x) (hn : 1 ≤ n) (p a : Int) (r : RuleD) (x0 x1 H y : Int) (hm : -1 ≤ r.m) (hm' : r.m ≤ 1) (e0 : x.getD 0 0 = x0) (e1 : x.getD 1 0 = x1) (eH : x0 - r.m = H) (ey : x.getD (2 + H).toNat 0 = y) :
    ((x0 < 0 ∨ x0 = n) ∧ inB H 0 ((n : Int) - 1) = false ∧ before x p a r = none) ∨
    (¬ (x0 < 0 ∨ x0 = n) ∧ (r.n != x1) = true ∧ before x p a r = none) ∨
    ((((x0 < 0 ∨ x0 = n) ∧ inB H 0 ((n : Int) - 1) = true) ∨ (¬ (x0 < 0 ∨ x0 = n) ∧ (r.n != x1) = false)) ∧
      ((H < 0 ∧ before x p a r = some ((x.set 0 H).set 1 (-1))) ∨ (0 ≤ H ∧ H = n ∧ before x p a r = some ((x.set 0 H).set 1 (-1))) ∨
       (0 ≤ H ∧ H < n ∧ ((0 ≤ y ∧ (y != r.w) = true ∧ before x p a r = none) ∨ (0 ≤ y ∧ (y != r.w) = false ∧ before x p a r = some (((x.set 0 H).set 1 p).set (2 + H).toNat a)) ∨ (y < 0 ∧ before x p a r = some (((x.set 0 H).set 1 p).set (2 + H).toNat a)))))) := by
  have hl := h.len
  have b1 := h.lo
  have b2 := h.hi
  have b3 := h.out
  have b4 := h.ins
  have b5 := h.cells
  have en : (x.length : Int) - 2 = n := by omega
  unfold before
  rw [e0, e1] at *
  rw [eH, ey, en]
  have hseg1 : H < 0 ∨ H = n → segNode x H (-1) 0 = (x.set 0 H).set 1 (-1) := fun hh => by unfold segNode; rw [if_neg (by omega)]
  have hseg2 : 0 ≤ H → H < n → segNode x H p a = ((x.set 0 H).set 1 p).set (2 + H).toNat a := fun h1 h2 => by unfold segNode; rw [if_pos (by omega)]
  have hy : 0 ≤ H → H < n → -1 ≤ y := fun h1 h2 => by rw [← ey]; exact (b5 _ (by omega) (by omega)).1
  by_cases ho : x0 < 0 ∨ x0 = n
  · have hx1 := b3 ho
    by_cases hb : 0 ≤ H ∧ H ≤ (n : Int) - 1
    · right; right
      refine ⟨.inl ⟨ho, by simp [inB, hb]⟩, .inr (.inr ⟨by omega, by omega, ?_⟩)⟩
      have hy := hy (by omega) (by omega)
      rw [if_neg (by omega), if_neg (by omega), hseg2 (by omega) (by omega)]
      by_cases hy0 : 0 ≤ y
      · by_cases hyw : y = r.w
        · exact .inr (.inl ⟨hy0, by simp [hyw], by rw [if_pos (by omega)]⟩)
        · exact .inl ⟨hy0, by simp [hyw], by rw [if_neg (by omega)]⟩
      · exact .inr (.inr ⟨by omega, by rw [if_pos (by omega)]⟩)
    · left
      refine ⟨ho, ?_, ?_⟩
      · simp only [inB, Bool.and_eq_false_iff, decide_eq_false_iff_not]; omega
      · by_cases c : (0 ≤ x1 ∧ r.n ≠ x1) ∨ H < -1 ∨ (n : Int) < H
        · rw [if_pos c]
        · rw [if_neg c, if_pos (by omega), if_neg (by omega)]
  · have hx1 := b4 ho
    right
    by_cases hne : r.n = x1
    · right
      refine ⟨.inr ⟨ho, by simp [hne]⟩, ?_⟩
      rw [if_neg (by omega)]
      by_cases c : H < 0 ∨ H = n
      · rw [if_pos (by omega), if_pos (by omega), hseg1 c]
        rcases c with c | c
        · exact .inl ⟨c, rfl⟩
        · exact .inr (.inl ⟨by omega, c, rfl⟩)
      · rw [if_neg (by omega), hseg2 (by omega) (by omega)]
        have hy := hy (by omega) (by omega)
        refine .inr (.inr ⟨by omega, by omega, ?_⟩)
        by_cases hy0 : 0 ≤ y
        · by_cases hyw : y = r.w
          · exact .inr (.inl ⟨hy0, by simp [hyw], by rw [if_pos (by omega)]⟩)
          · exact .inl ⟨hy0, by simp [hyw], by rw [if_neg (by omega)]⟩
        · exact .inr (.inr ⟨by omega, by rw [if_pos (by omega)]⟩)
    · left
      exact ⟨ho, by simp [hne], by rw [if_pos (by omega)]⟩
/-- The node before a node by the rule with index k, if there is a rule. -/
def backOf (m : MachD) (x : List Int) (k : Nat) : Option (List Int) :=
  match m.rules[k]? with
  | some r => if r = noR then none else before x ((k : Int) / m.sy) ((k : Int) % m.sy) r
  | none => none
theorem backOf_no {m : MachD} {x : List Int} {k : Nat} (hk : k < m.rules.length) (h : m.rules[k] = noR) : backOf m x k = none := by simp [backOf, hk, h]
theorem backOf_yes {m : MachD} {x : List Int} {k : Nat} (hk : k < m.rules.length) (h : ¬ m.rules[k] = noR) : backOf m x k = before x ((k : Int) / m.sy) ((k : Int) % m.sy) m.rules[k] := by simp [backOf, hk, h]
theorem predsTo_back {m : MachD} {x : List Int} {k : Nat} (hk : k < m.rules.length) : predsTo m x (k + 1) = addNew (predsTo m x k) (backOf m x k) := by
  by_cases h : m.rules[k] = noR
  · rw [predsTo_no hk h, backOf_no hk h]; rfl
  · rw [predsTo_yes hk h, backOf_yes hk h]
set_option maxRecDepth 20000 in
set_option maxHeartbeats 4000000 in
theorem l26Back_c (b : Nat) (m : MachD) (rv : Value) (xv : Value) (x : List Int) (n k : Nat) (w : World) (hM : MachBlk w b m rv) (hr : Rules w rv m.rules) (hxv : Ints w xv x) (hmk : MOk m) (hx : NodeOk m.sy m.st n x) (n1 : 1 ≤ n) (n2 : n ≤ 9) (hk : k < m.rules.length) :
    Calls Tryz.prog 69 #[.pointer (some ⟨b, 0, none⟩), xv, .int .i64 k] w (BeforeRes w.heap.size w (backOf m x k)) := by
  obtain ⟨Ar, cr, rfl, h3, h3'⟩ := hr.form
  obtain ⟨Ax, cx, rfl, _, _⟩ := hxv.form
  have hxl := hx.len
  obtain ⟨b', off, rfl, hc⟩ := hr.at hk
  obtain ⟨c0, c1, c2⟩ := hc k hk
  have cM := Blk.cell hM 2
  simp only [List.getElem?_toArray, List.getElem?_cons_zero, List.getElem?_cons_succ] at cM
  have HX := Lib.hid hx
  clear hc hx
  generalize hrk : m.rules[k] = r at *
  have hmv := fun h => hmk.mv r (hrk ▸ List.getElem_mem hk) h
  have HMV := Lib.hid hmv
  have hg : ∀ j, j < x.length → ∃ b off, Ax = some ⟨b, off, none⟩ ∧ w.cell? ⟨b, off + j, none⟩ = some (.int .i64 (x.getD j 0)) := fun j hj => by
    obtain ⟨bx, ox, e, hc⟩ := hxv.at hj
    exact ⟨bx, ox, e, by rw [hc j hj, List.getD_eq_getElem?_getD, List.getElem?_eq_getElem hj]; rfl⟩
  obtain ⟨bx, ox, rfl, k0⟩ := hg 0 (by omega)
  obtain ⟨_, _, e, k1⟩ := hg 1 (by omega)
  injection e with e
  injection e with e1 e2
  subst e1 e2
  clear hg hmv
  have hb0 : backOf m x k = if r = noR then none else before x ((k : Int) / m.sy) ((k : Int) % m.sy) r := by simp [backOf, hk, hrk]
  have HB0 := Lib.hid hb0
  clear hb0
  have hln1 : (1 : Int) < (x.length : Int) := by omega
  have hln0 : (0 : Int) < (x.length : Int) := by omega
  simp only [Nat.add_zero] at k0
  obtain ⟨w1, bk, e1, e2, hx1, _, _, r0, r1, r2⟩ := box3 w (.int .i64 r.w) (.int .i64 r.m) (.int .i64 r.n) 73
  subst e2
  have E1 := Lib.hid e1
  clear e1
  rw [hxl] at hxv
  go_enter Tryz.func69, Tryz.ntmps69
  go_wp2
  rw [E1.out]
  have d0 := cellR r0
  have d1 := cellR r1
  have d2 := cellR r2
  have rn := ruleEql_run
  have heb : ∀ q, rEq r noR = q → rEq ⟨r.w, r.m, r.n⟩ ⟨0, 0, -1⟩ = q := fun _ h => h
  by_cases he : r = noR
  · have H := heb true (by simp [rEq, he])
    have HB : Hid (backOf m x k = none) := by unfold Hid; rw [HB0.out, if_pos he]
    clear heb he
    refine wp_region_ext (by kernel_rfl) (by kernel_rfl) ?_
    repeat (go_big_quiet_step ((go_at_call 33; exact Calls.extR (l05None_c _))))
    refine wpQuiet_nil ?_
    intro w2 hx2
    go_wp2
    go_ret2
    exact beforeRes_none HB.out (hx1.trans hx2)
  · have H := heb false (by simp [rEq, he])
    obtain ⟨mv1, mv2⟩ := HMV.out he
    have hb1 : backOf m x k = before x ((k : Int) / m.sy) ((k : Int) % m.sy) r := by rw [HB0.out, if_neg he]
    obtain ⟨q1, hq1⟩ : ∃ q, (k : Int) / m.sy = q := ⟨_, rfl⟩
    obtain ⟨q2, hq2⟩ : ∃ q, (k : Int) % m.sy = q := ⟨_, rfl⟩
    have hl6 := hmk.len2
    have hsy1 := hmk.sy1
    have hw : IntKind.i64.wrap q1 = q1 := by
      have e1 : 0 ≤ (k : Int) / m.sy := Int.ediv_nonneg (by omega) (by omega)
      have e2 : (k : Int) / m.sy ≤ k := Int.ediv_le_self _ (by omega)
      exact IntWalk.i64_in _ (by omega)
    have hd : (k : Int).tdiv m.sy = q1 := by rw [Int.tdiv_eq_ediv_of_nonneg (by omega)]; exact hq1
    have hm : (k : Int).tmod m.sy = q2 := by rw [Int.tmod_eq_emod_of_nonneg (by omega)]; exact hq2
    rw [hq1, hq2] at hb1
    have HB1 := Lib.hid hb1
    clear heb he hq1 hq2 hb1 HB0 HMV
    have hWW := fun H y e2 e3 => backWays HX.out n1 q1 q2 r (x.getD 0 0) (x.getD 1 0) H y mv1 mv2 rfl rfl e2 e3
    have lo := HX.out.lo
    have hi := HX.out.hi
    generalize hX0 : x.getD 0 0 = x0 at *
    generalize hX1 : x.getD 1 0 = x1 at *
    clear hX0 hX1
    have HW := Lib.hid hWW
    clear hWW
    refine wp_region_ext (by kernel_rfl) (by kernel_rfl) ?_
    repeat (go_big_quiet_step ((go_at_call 33; exact Calls.extR (l05None_c _))))
    refine wpQuiet_nil ?_
    intro w2 hx2
    have hX2 := hx1.trans hx2
    clear d0 d1 d2 rn H
    have a0 := hX2.cell k0
    have a1 := hX2.cell k1
    have r0 := hx2.cell r0
    have r1 := hx2.cell r1
    have r2 := hx2.cell r2
    have f0 := cellR a0
    have f1 := cellR r1
    go_wp2
    refine wp_region_ext (by kernel_rfl) (by kernel_rfl) ?_
    repeat (go_big_quiet_step (fail))
    refine wpQuiet_nil ?_
    intro w3 hx3
    generalize hH : x0 - r.m = H at *
    have hH1 : -2 ≤ H := by omega
    have hH2 : H ≤ 10 := by omega
    have hWW := HW.out H _ rfl rfl
    have hX3 := hX2.trans hx3
    have a0 := hx3.cell a0
    have a1 := hx3.cell a1
    have r0 := hx3.cell r0
    have r1 := hx3.cell r1
    have r2 := hx3.cell r2
    have cM0 := (Blk.ext hM hX3).cell 0
    simp only [List.getElem?_toArray, List.getElem?_cons_zero] at cM0
    have hi3 := hxv.ext hX3
    clear hH HW f0 f1 hx2 hx3 c0 c1 c2 cM k0 k1
    have f1 := cellR a1
    have f2 := cellR r2
    rcases hWW with ⟨ho, hin, q3⟩ | ⟨ho, hin, q3⟩ | ⟨hT, hrest⟩
    · have Q3 := Lib.hid q3
      clear q3
      rcases ho with ho | ho
      · have t1 : decide (x0 < 0) = true := by simp [ho]
        go_wp2
        refine wp_region_ext (by kernel_rfl) (by kernel_rfl) ?_
        repeat (go_big_quiet_step ((go_at_call 23; exact Calls.extR ((l00In_c _ _ _ _).mono fun e w' ⟨h1, h2⟩ => ⟨h1, h2 ▸ Ext.refl _⟩))))
        refine wpQuiet_nil ?_
        intro w4 hx4
        go_wp2
        go_ret2
        exact beforeRes_none (by rw [HB1.out]; exact Q3.out) (hX3.trans hx4)
      · have t1 : decide (x0 < 0) = false := by simp; omega
        have t2 : (x0 == (n : Int)) = true := by simp [ho]
        go_wp2
        refine wp_region_ext (by kernel_rfl) (by kernel_rfl) ?_
        repeat (go_big_quiet_step ((go_at_call 23; exact Calls.extR ((l00In_c _ _ _ _).mono fun e w' ⟨h1, h2⟩ => ⟨h1, h2 ▸ Ext.refl _⟩))))
        refine wpQuiet_nil ?_
        intro w4 hx4
        go_wp2
        go_ret2
        exact beforeRes_none (by rw [HB1.out]; exact Q3.out) (hX3.trans hx4)
    · have Q3 := Lib.hid q3
      clear q3
      have t1 : decide (x0 < 0) = false := by simp; omega
      have t2 : (x0 == (n : Int)) = false := by simp; omega
      go_wp2
      refine wp_region_ext (by kernel_rfl) (by kernel_rfl) ?_
      repeat (go_big_quiet_step ((go_at_call 23; exact Calls.extR ((l00In_c _ _ _ _).mono fun e w' ⟨h1, h2⟩ => ⟨h1, h2 ▸ Ext.refl _⟩))))
      refine wpQuiet_nil ?_
      intro w4 hx4
      go_wp2
      go_ret2
      exact beforeRes_none (by rw [HB1.out]; exact Q3.out) (hX3.trans hx4)
    rcases hT with ⟨ho, hin⟩ | ⟨ho, hin⟩
    · rcases ho with ho | ho
      · have t1 : decide (x0 < 0) = true := by simp [ho]
        go_wp2
        refine wp_region_ext (by kernel_rfl) (by kernel_rfl) ?_
        repeat (go_big_quiet_step ((go_at_call 23; exact Calls.extR ((l00In_c _ _ _ _).mono fun e w' ⟨h1, h2⟩ => ⟨h1, h2 ▸ Ext.refl _⟩))))
        refine wpQuiet_nil ?_
        intro w4 hx4
        have hX4 := hX3.trans hx4
        have hi4 := hi3.ext hx4
        go_wp2_with fail
        refine (l00Own_c _ x w4 hi4 (by omega) (by omega)).mono ?_
        rintro e w5 ⟨u, rfl, ho5, hx5⟩
        have hX5 := hX4.trans hx5
        obtain ⟨Au, cu, rfl, _, _⟩ := ho5.ints.form
        obtain ⟨gu, rfl, hgb, hgl⟩ := own_at ho5 (by omega)
        have p0 := ho5.cellAt 0 (by omega)
        rw [ivs_get x 0 (by omega)] at p0
        have z0 := ho5.frozenAt 0
        have hE6 := hX5.setCell (p := ⟨gu, 0, none⟩) (Nat.le_trans hX4.size hgb) (.int .i64 H)
        have o6 := (ho5.stored 0 (.int .i64 H)).1
        rw [← ivs_set] at o6
        have p1 := o6.cellAt 1 (by omega)
        rw [ivs_get _ 1 (by simp; omega)] at p1
        have z1 := o6.frozenAt 1
        rcases hrest with ⟨g1, g2⟩ | ⟨g1, g2, g3⟩ | ⟨g1, g2, g3⟩
        · have G := Lib.hid g2
          have t3 : decide (H < 0) = true := by simp [g1]
          have hE7 := hE6.setCell (p := ⟨gu, 1, none⟩) (Nat.le_trans hX4.size hgb) (.int .i64 (-1))
          have o7 := (o6.stored 1 (.int .i64 (-1))).1
          rw [← ivs_set] at o7
          clear g2
          go_wp2
          go_ret2
          exact beforeRes_some (by rw [HB1.out]; exact G.out) (ownsRow_base (by simpa [hxl] using o7) hX4.size) hE7
        · have G := Lib.hid g3
          have t3 : decide (H < 0) = false := by simp; omega
          have t4 : (H == (n : Int)) = true := by simp [g2]
          have hE7 := hE6.setCell (p := ⟨gu, 1, none⟩) (Nat.le_trans hX4.size hgb) (.int .i64 (-1))
          have o7 := (o6.stored 1 (.int .i64 (-1))).1
          rw [← ivs_set] at o7
          clear g2 g3
          go_wp2
          go_ret2
          exact beforeRes_some (by rw [HB1.out]; exact G.out) (ownsRow_base (by simpa [hxl] using o7) hX4.size) hE7
        · obtain ⟨j, rfl⟩ := Int.eq_ofNat_of_zero_le g1
          have ej : (2 + (j : Int)).toNat = 2 + j := by omega
          rw [ej] at g3
          have t3 : decide ((j : Int) < 0) = false := by simp
          have t4 : ((j : Int) == (n : Int)) = false := by simp; omega
          have hwr : IntKind.i64.wrap (2 + (j : Int)) = 2 + (j : Int) := IntWalk.i64_in _ (by omega)
          have hb1 : (0 : Int) ≤ 2 + (j : Int) := by omega
          have hb2 : 2 + (j : Int) < (n : Int) + 2 := by omega
          have hs0 : ¬ m.sy = 0 := by omega
          have py := o6.cellAt (2 + j) (by omega)
          rw [ivs_get _ (2 + j) (by simp; omega)] at py
          have ey : (x.set 0 (j : Int))[2 + j]'(by simp; omega) = x.getD (2 + j) 0 := by rw [List.getElem_set_ne (by omega), List.getD_eq_getElem?_getD, List.getElem?_eq_getElem (by omega)]; rfl
          rw [ey] at py
          clear ey ej
          generalize hY : x.getD (2 + j) 0 = y at *
          have s0 := (hx5.setCell (p := ⟨gu, 0, none⟩) hgb (.int .i64 j)).cell (hx4.cell r0)
          have dY := cellR py
          have dS := cellR s0
          rcases g3 with ⟨y1, y2, y3⟩ | ⟨y1, y2, y3⟩ | ⟨y1, y3⟩
          · have G := Lib.hid y3
            have t5 : decide (0 ≤ y) = true := by simp [y1]
            clear y3
            go_wp2
            refine wp_region_ext (by kernel_rfl) (by kernel_rfl) ?_
            repeat (go_big_quiet_step (fail))
            refine wpQuiet_nil ?_
            intro w7 hx7
            go_wp2
            go_ret2
            exact beforeRes_none (by rw [HB1.out]; exact G.out) (hE6.trans hx7)
          · have G := Lib.hid y3
            have t5 : decide (0 ≤ y) = true := by simp [y1]
            clear y3
            go_wp2
            refine wp_region_ext (by kernel_rfl) (by kernel_rfl) ?_
            repeat (go_big_quiet_step (fail))
            refine wpQuiet_nil ?_
            intro w7 hx7
            have o7 := ownsRow_ext o6 hx7
            have hE7 := hE6.trans hx7
            have p2 := o7.cellAt 1 (by omega)
            rw [ivs_get _ 1 (by simp; omega)] at p2
            have z2 := o7.frozenAt 1
            have hE8 := hE7.setCell (p := ⟨gu, 1, none⟩) (Nat.le_trans hX4.size hgb) (.int .i64 q1)
            have o8 := (o7.stored 1 (.int .i64 q1)).1
            rw [← ivs_set] at o8
            have p3 := o8.cellAt (2 + j) (by omega)
            rw [ivs_get _ (2 + j) (by simp; omega)] at p3
            have z3 := o8.frozenAt (2 + j)
            have hE9 := hE8.setCell (p := ⟨gu, 2 + j, none⟩) (Nat.le_trans hX4.size hgb) (.int .i64 q2)
            have o9 := (o8.stored (2 + j) (.int .i64 q2)).1
            rw [← ivs_set] at o9
            have cM7 := (Blk.ext hM hE7).cell 0
            have cM8 := (Blk.ext hM hE8).cell 0
            simp only [List.getElem?_toArray, List.getElem?_cons_zero] at cM7 cM8
            clear dY dS py s0
            go_wp2
            go_ret2
            exact beforeRes_some (by rw [HB1.out]; exact G.out) (ownsRow_base (by simpa [hxl] using o9) hX4.size) hE9
          · have G := Lib.hid y3
            have t5 : decide (0 ≤ y) = false := by simp; omega
            clear y3
            go_wp2
            refine wp_region_ext (by kernel_rfl) (by kernel_rfl) ?_
            repeat (go_big_quiet_step (fail))
            refine wpQuiet_nil ?_
            intro w7 hx7
            have o7 := ownsRow_ext o6 hx7
            have hE7 := hE6.trans hx7
            have p2 := o7.cellAt 1 (by omega)
            rw [ivs_get _ 1 (by simp; omega)] at p2
            have z2 := o7.frozenAt 1
            have hE8 := hE7.setCell (p := ⟨gu, 1, none⟩) (Nat.le_trans hX4.size hgb) (.int .i64 q1)
            have o8 := (o7.stored 1 (.int .i64 q1)).1
            rw [← ivs_set] at o8
            have p3 := o8.cellAt (2 + j) (by omega)
            rw [ivs_get _ (2 + j) (by simp; omega)] at p3
            have z3 := o8.frozenAt (2 + j)
            have hE9 := hE8.setCell (p := ⟨gu, 2 + j, none⟩) (Nat.le_trans hX4.size hgb) (.int .i64 q2)
            have o9 := (o8.stored (2 + j) (.int .i64 q2)).1
            rw [← ivs_set] at o9
            have cM7 := (Blk.ext hM hE7).cell 0
            have cM8 := (Blk.ext hM hE8).cell 0
            simp only [List.getElem?_toArray, List.getElem?_cons_zero] at cM7 cM8
            clear dY dS py s0
            go_wp2
            go_ret2
            exact beforeRes_some (by rw [HB1.out]; exact G.out) (ownsRow_base (by simpa [hxl] using o9) hX4.size) hE9
      · have t1 : decide (x0 < 0) = false := by simp; omega
        have t2 : (x0 == (n : Int)) = true := by simp [ho]
        go_wp2
        refine wp_region_ext (by kernel_rfl) (by kernel_rfl) ?_
        repeat (go_big_quiet_step ((go_at_call 23; exact Calls.extR ((l00In_c _ _ _ _).mono fun e w' ⟨h1, h2⟩ => ⟨h1, h2 ▸ Ext.refl _⟩))))
        refine wpQuiet_nil ?_
        intro w4 hx4
        have hX4 := hX3.trans hx4
        have hi4 := hi3.ext hx4
        go_wp2_with fail
        refine (l00Own_c _ x w4 hi4 (by omega) (by omega)).mono ?_
        rintro e w5 ⟨u, rfl, ho5, hx5⟩
        have hX5 := hX4.trans hx5
        obtain ⟨Au, cu, rfl, _, _⟩ := ho5.ints.form
        obtain ⟨gu, rfl, hgb, hgl⟩ := own_at ho5 (by omega)
        have p0 := ho5.cellAt 0 (by omega)
        rw [ivs_get x 0 (by omega)] at p0
        have z0 := ho5.frozenAt 0
        have hE6 := hX5.setCell (p := ⟨gu, 0, none⟩) (Nat.le_trans hX4.size hgb) (.int .i64 H)
        have o6 := (ho5.stored 0 (.int .i64 H)).1
        rw [← ivs_set] at o6
        have p1 := o6.cellAt 1 (by omega)
        rw [ivs_get _ 1 (by simp; omega)] at p1
        have z1 := o6.frozenAt 1
        rcases hrest with ⟨g1, g2⟩ | ⟨g1, g2, g3⟩ | ⟨g1, g2, g3⟩
        · have G := Lib.hid g2
          have t3 : decide (H < 0) = true := by simp [g1]
          have hE7 := hE6.setCell (p := ⟨gu, 1, none⟩) (Nat.le_trans hX4.size hgb) (.int .i64 (-1))
          have o7 := (o6.stored 1 (.int .i64 (-1))).1
          rw [← ivs_set] at o7
          clear g2
          go_wp2
          go_ret2
          exact beforeRes_some (by rw [HB1.out]; exact G.out) (ownsRow_base (by simpa [hxl] using o7) hX4.size) hE7
        · have G := Lib.hid g3
          have t3 : decide (H < 0) = false := by simp; omega
          have t4 : (H == (n : Int)) = true := by simp [g2]
          have hE7 := hE6.setCell (p := ⟨gu, 1, none⟩) (Nat.le_trans hX4.size hgb) (.int .i64 (-1))
          have o7 := (o6.stored 1 (.int .i64 (-1))).1
          rw [← ivs_set] at o7
          clear g2 g3
          go_wp2
          go_ret2
          exact beforeRes_some (by rw [HB1.out]; exact G.out) (ownsRow_base (by simpa [hxl] using o7) hX4.size) hE7
        · obtain ⟨j, rfl⟩ := Int.eq_ofNat_of_zero_le g1
          have ej : (2 + (j : Int)).toNat = 2 + j := by omega
          rw [ej] at g3
          have t3 : decide ((j : Int) < 0) = false := by simp
          have t4 : ((j : Int) == (n : Int)) = false := by simp; omega
          have hwr : IntKind.i64.wrap (2 + (j : Int)) = 2 + (j : Int) := IntWalk.i64_in _ (by omega)
          have hb1 : (0 : Int) ≤ 2 + (j : Int) := by omega
          have hb2 : 2 + (j : Int) < (n : Int) + 2 := by omega
          have hs0 : ¬ m.sy = 0 := by omega
          have py := o6.cellAt (2 + j) (by omega)
          rw [ivs_get _ (2 + j) (by simp; omega)] at py
          have ey : (x.set 0 (j : Int))[2 + j]'(by simp; omega) = x.getD (2 + j) 0 := by rw [List.getElem_set_ne (by omega), List.getD_eq_getElem?_getD, List.getElem?_eq_getElem (by omega)]; rfl
          rw [ey] at py
          clear ey ej
          generalize hY : x.getD (2 + j) 0 = y at *
          have s0 := (hx5.setCell (p := ⟨gu, 0, none⟩) hgb (.int .i64 j)).cell (hx4.cell r0)
          have dY := cellR py
          have dS := cellR s0
          rcases g3 with ⟨y1, y2, y3⟩ | ⟨y1, y2, y3⟩ | ⟨y1, y3⟩
          · have G := Lib.hid y3
            have t5 : decide (0 ≤ y) = true := by simp [y1]
            clear y3
            go_wp2
            refine wp_region_ext (by kernel_rfl) (by kernel_rfl) ?_
            repeat (go_big_quiet_step (fail))
            refine wpQuiet_nil ?_
            intro w7 hx7
            go_wp2
            go_ret2
            exact beforeRes_none (by rw [HB1.out]; exact G.out) (hE6.trans hx7)
          · have G := Lib.hid y3
            have t5 : decide (0 ≤ y) = true := by simp [y1]
            clear y3
            go_wp2
            refine wp_region_ext (by kernel_rfl) (by kernel_rfl) ?_
            repeat (go_big_quiet_step (fail))
            refine wpQuiet_nil ?_
            intro w7 hx7
            have o7 := ownsRow_ext o6 hx7
            have hE7 := hE6.trans hx7
            have p2 := o7.cellAt 1 (by omega)
            rw [ivs_get _ 1 (by simp; omega)] at p2
            have z2 := o7.frozenAt 1
            have hE8 := hE7.setCell (p := ⟨gu, 1, none⟩) (Nat.le_trans hX4.size hgb) (.int .i64 q1)
            have o8 := (o7.stored 1 (.int .i64 q1)).1
            rw [← ivs_set] at o8
            have p3 := o8.cellAt (2 + j) (by omega)
            rw [ivs_get _ (2 + j) (by simp; omega)] at p3
            have z3 := o8.frozenAt (2 + j)
            have hE9 := hE8.setCell (p := ⟨gu, 2 + j, none⟩) (Nat.le_trans hX4.size hgb) (.int .i64 q2)
            have o9 := (o8.stored (2 + j) (.int .i64 q2)).1
            rw [← ivs_set] at o9
            have cM7 := (Blk.ext hM hE7).cell 0
            have cM8 := (Blk.ext hM hE8).cell 0
            simp only [List.getElem?_toArray, List.getElem?_cons_zero] at cM7 cM8
            clear dY dS py s0
            go_wp2
            go_ret2
            exact beforeRes_some (by rw [HB1.out]; exact G.out) (ownsRow_base (by simpa [hxl] using o9) hX4.size) hE9
          · have G := Lib.hid y3
            have t5 : decide (0 ≤ y) = false := by simp; omega
            clear y3
            go_wp2
            refine wp_region_ext (by kernel_rfl) (by kernel_rfl) ?_
            repeat (go_big_quiet_step (fail))
            refine wpQuiet_nil ?_
            intro w7 hx7
            have o7 := ownsRow_ext o6 hx7
            have hE7 := hE6.trans hx7
            have p2 := o7.cellAt 1 (by omega)
            rw [ivs_get _ 1 (by simp; omega)] at p2
            have z2 := o7.frozenAt 1
            have hE8 := hE7.setCell (p := ⟨gu, 1, none⟩) (Nat.le_trans hX4.size hgb) (.int .i64 q1)
            have o8 := (o7.stored 1 (.int .i64 q1)).1
            rw [← ivs_set] at o8
            have p3 := o8.cellAt (2 + j) (by omega)
            rw [ivs_get _ (2 + j) (by simp; omega)] at p3
            have z3 := o8.frozenAt (2 + j)
            have hE9 := hE8.setCell (p := ⟨gu, 2 + j, none⟩) (Nat.le_trans hX4.size hgb) (.int .i64 q2)
            have o9 := (o8.stored (2 + j) (.int .i64 q2)).1
            rw [← ivs_set] at o9
            have cM7 := (Blk.ext hM hE7).cell 0
            have cM8 := (Blk.ext hM hE8).cell 0
            simp only [List.getElem?_toArray, List.getElem?_cons_zero] at cM7 cM8
            clear dY dS py s0
            go_wp2
            go_ret2
            exact beforeRes_some (by rw [HB1.out]; exact G.out) (ownsRow_base (by simpa [hxl] using o9) hX4.size) hE9
    · have t1 : decide (x0 < 0) = false := by simp; omega
      have t2 : (x0 == (n : Int)) = false := by simp; omega
      go_wp2
      refine wp_region_ext (by kernel_rfl) (by kernel_rfl) ?_
      repeat (go_big_quiet_step ((go_at_call 23; exact Calls.extR ((l00In_c _ _ _ _).mono fun e w' ⟨h1, h2⟩ => ⟨h1, h2 ▸ Ext.refl _⟩))))
      refine wpQuiet_nil ?_
      intro w4 hx4
      have hX4 := hX3.trans hx4
      have hi4 := hi3.ext hx4
      go_wp2_with fail
      refine (l00Own_c _ x w4 hi4 (by omega) (by omega)).mono ?_
      rintro e w5 ⟨u, rfl, ho5, hx5⟩
      have hX5 := hX4.trans hx5
      obtain ⟨Au, cu, rfl, _, _⟩ := ho5.ints.form
      obtain ⟨gu, rfl, hgb, hgl⟩ := own_at ho5 (by omega)
      have p0 := ho5.cellAt 0 (by omega)
      rw [ivs_get x 0 (by omega)] at p0
      have z0 := ho5.frozenAt 0
      have hE6 := hX5.setCell (p := ⟨gu, 0, none⟩) (Nat.le_trans hX4.size hgb) (.int .i64 H)
      have o6 := (ho5.stored 0 (.int .i64 H)).1
      rw [← ivs_set] at o6
      have p1 := o6.cellAt 1 (by omega)
      rw [ivs_get _ 1 (by simp; omega)] at p1
      have z1 := o6.frozenAt 1
      rcases hrest with ⟨g1, g2⟩ | ⟨g1, g2, g3⟩ | ⟨g1, g2, g3⟩
      · have G := Lib.hid g2
        have t3 : decide (H < 0) = true := by simp [g1]
        have hE7 := hE6.setCell (p := ⟨gu, 1, none⟩) (Nat.le_trans hX4.size hgb) (.int .i64 (-1))
        have o7 := (o6.stored 1 (.int .i64 (-1))).1
        rw [← ivs_set] at o7
        clear g2
        go_wp2
        go_ret2
        exact beforeRes_some (by rw [HB1.out]; exact G.out) (ownsRow_base (by simpa [hxl] using o7) hX4.size) hE7
      · have G := Lib.hid g3
        have t3 : decide (H < 0) = false := by simp; omega
        have t4 : (H == (n : Int)) = true := by simp [g2]
        have hE7 := hE6.setCell (p := ⟨gu, 1, none⟩) (Nat.le_trans hX4.size hgb) (.int .i64 (-1))
        have o7 := (o6.stored 1 (.int .i64 (-1))).1
        rw [← ivs_set] at o7
        clear g2 g3
        go_wp2
        go_ret2
        exact beforeRes_some (by rw [HB1.out]; exact G.out) (ownsRow_base (by simpa [hxl] using o7) hX4.size) hE7
      · obtain ⟨j, rfl⟩ := Int.eq_ofNat_of_zero_le g1
        have ej : (2 + (j : Int)).toNat = 2 + j := by omega
        rw [ej] at g3
        have t3 : decide ((j : Int) < 0) = false := by simp
        have t4 : ((j : Int) == (n : Int)) = false := by simp; omega
        have hwr : IntKind.i64.wrap (2 + (j : Int)) = 2 + (j : Int) := IntWalk.i64_in _ (by omega)
        have hb1 : (0 : Int) ≤ 2 + (j : Int) := by omega
        have hb2 : 2 + (j : Int) < (n : Int) + 2 := by omega
        have hs0 : ¬ m.sy = 0 := by omega
        have py := o6.cellAt (2 + j) (by omega)
        rw [ivs_get _ (2 + j) (by simp; omega)] at py
        have ey : (x.set 0 (j : Int))[2 + j]'(by simp; omega) = x.getD (2 + j) 0 := by rw [List.getElem_set_ne (by omega), List.getD_eq_getElem?_getD, List.getElem?_eq_getElem (by omega)]; rfl
        rw [ey] at py
        clear ey ej
        generalize hY : x.getD (2 + j) 0 = y at *
        have s0 := (hx5.setCell (p := ⟨gu, 0, none⟩) hgb (.int .i64 j)).cell (hx4.cell r0)
        have dY := cellR py
        have dS := cellR s0
        rcases g3 with ⟨y1, y2, y3⟩ | ⟨y1, y2, y3⟩ | ⟨y1, y3⟩
        · have G := Lib.hid y3
          have t5 : decide (0 ≤ y) = true := by simp [y1]
          clear y3
          go_wp2
          refine wp_region_ext (by kernel_rfl) (by kernel_rfl) ?_
          repeat (go_big_quiet_step (fail))
          refine wpQuiet_nil ?_
          intro w7 hx7
          go_wp2
          go_ret2
          exact beforeRes_none (by rw [HB1.out]; exact G.out) (hE6.trans hx7)
        · have G := Lib.hid y3
          have t5 : decide (0 ≤ y) = true := by simp [y1]
          clear y3
          go_wp2
          refine wp_region_ext (by kernel_rfl) (by kernel_rfl) ?_
          repeat (go_big_quiet_step (fail))
          refine wpQuiet_nil ?_
          intro w7 hx7
          have o7 := ownsRow_ext o6 hx7
          have hE7 := hE6.trans hx7
          have p2 := o7.cellAt 1 (by omega)
          rw [ivs_get _ 1 (by simp; omega)] at p2
          have z2 := o7.frozenAt 1
          have hE8 := hE7.setCell (p := ⟨gu, 1, none⟩) (Nat.le_trans hX4.size hgb) (.int .i64 q1)
          have o8 := (o7.stored 1 (.int .i64 q1)).1
          rw [← ivs_set] at o8
          have p3 := o8.cellAt (2 + j) (by omega)
          rw [ivs_get _ (2 + j) (by simp; omega)] at p3
          have z3 := o8.frozenAt (2 + j)
          have hE9 := hE8.setCell (p := ⟨gu, 2 + j, none⟩) (Nat.le_trans hX4.size hgb) (.int .i64 q2)
          have o9 := (o8.stored (2 + j) (.int .i64 q2)).1
          rw [← ivs_set] at o9
          have cM7 := (Blk.ext hM hE7).cell 0
          have cM8 := (Blk.ext hM hE8).cell 0
          simp only [List.getElem?_toArray, List.getElem?_cons_zero] at cM7 cM8
          clear dY dS py s0
          go_wp2
          go_ret2
          exact beforeRes_some (by rw [HB1.out]; exact G.out) (ownsRow_base (by simpa [hxl] using o9) hX4.size) hE9
        · have G := Lib.hid y3
          have t5 : decide (0 ≤ y) = false := by simp; omega
          clear y3
          go_wp2
          refine wp_region_ext (by kernel_rfl) (by kernel_rfl) ?_
          repeat (go_big_quiet_step (fail))
          refine wpQuiet_nil ?_
          intro w7 hx7
          have o7 := ownsRow_ext o6 hx7
          have hE7 := hE6.trans hx7
          have p2 := o7.cellAt 1 (by omega)
          rw [ivs_get _ 1 (by simp; omega)] at p2
          have z2 := o7.frozenAt 1
          have hE8 := hE7.setCell (p := ⟨gu, 1, none⟩) (Nat.le_trans hX4.size hgb) (.int .i64 q1)
          have o8 := (o7.stored 1 (.int .i64 q1)).1
          rw [← ivs_set] at o8
          have p3 := o8.cellAt (2 + j) (by omega)
          rw [ivs_get _ (2 + j) (by simp; omega)] at p3
          have z3 := o8.frozenAt (2 + j)
          have hE9 := hE8.setCell (p := ⟨gu, 2 + j, none⟩) (Nat.le_trans hX4.size hgb) (.int .i64 q2)
          have o9 := (o8.stored (2 + j) (.int .i64 q2)).1
          rw [← ivs_set] at o9
          have cM7 := (Blk.ext hM hE7).cell 0
          have cM8 := (Blk.ext hM hE8).cell 0
          simp only [List.getElem?_toArray, List.getElem?_cons_zero] at cM7 cM8
          clear dY dS py s0
          go_wp2
          go_ret2
          exact beforeRes_some (by rw [HB1.out]; exact G.out) (ownsRow_base (by simpa [hxl] using o9) hX4.size) hE9
end Go.Proofs.YtmffnlpndgdcjaaGreatDoor
