/- Contract of the reference's moves of the machine with two symbols.
Contracts of the reference's maker of the machine with two symbols. The machine is valid.
Contract of the reference's building of the machine with two symbols. The machine is valid. -/
import Derived.Test.YthhjbmlkncdigaaGreatDoorB29
import Derived.Deep.DeepCutAuto
import Derived.Test.YthhjbmlkncdigaaGreatDoorB04
import Derived.Test.YthhjbmlkncdigaaGreatDoorB10
import Derived.Deep.RegionLaw
import Derived.Deep.AppendLies
import Derived.Test.YthhjbmlkncdigaaGreatDoorB25
section
set_option linter.unusedSimpArgs false
set_option linter.unusedVariables false
namespace Go.Proofs.YthhjbmlkncdigaaGreatDoor
open Go Go.RowKit Go.Proofs
set_option maxHeartbeats 400000
set_option maxRecDepth 40000 in
set_option maxHeartbeats 8000000 in
theorem l13Binary12_c (b : Nat) (m : MachD) (k a b' c v : Int) (pv : Value) (w : World) (hM : MachAt w b m) (hm : machOk m = true) (hk0 : ¬ k = 0) (hp : BiOk m ⟨k, a, b', c⟩) (v0 : 0 ≤ v) (v1 : v < 2) (hpv : Ints w pv [k, a, b']) :
    Calls Tryz.prog 108 #[.pointer (some ⟨b, 0, none⟩), pv, .int .i64 v] w (MoveResB w (actB m ⟨k, a, b', c⟩ v)) := by
  obtain ⟨rv, p0, p1, p2, hr⟩ := hM
  obtain ⟨A, cap, rfl, h2, h2'⟩ := hr.form
  obtain ⟨s1, s2, s3, s4, hl⟩ := machOk_all hm
  have hl6 : m.rules.length ≤ 6000 := by have := (mul_bounds s1 s2 s3 s4).2; omega
  obtain ⟨Ap, cp, rfl, _, _⟩ := hpv.form
  obtain ⟨bp, op, rfl, hc⟩ := hpv.at (k := 0) (by simp)
  obtain ⟨W, hW⟩ : ∃ W, W = w.alloc (.cells #[.bool false, .int .i64 0, .int .i64 0, .slice none 0 0] 125) := ⟨_, rfl⟩
  have hXW : Ext w W := by rw [hW]; exact Ext.alloc _ _
  have bZ : Blk W w.heap.size 125 #[.bool false, .int .i64 0, .int .i64 0, .slice none 0 0] := by rw [hW]; exact Blk.new _ _ _ _ rfl
  have hBr := bitsD_range m.sy
  have LB := l13Bits_c m.sy W s2
  have hru : RuB m a := by
    rcases hp with ⟨h, _⟩ | ⟨_, h, _⟩ | ⟨_, h, _⟩
    · exact absurd h hk0
    · exact h
    · exact h
  obtain ⟨⟨rw0, rw1⟩, hrm, rn0, rn1⟩ := hru.ok hm
  have ra0 := hru.a0
  have ra1 := hru.a1
  obtain ⟨j, rfl⟩ : ∃ j : Nat, a = (j : Int) := ⟨a.toNat, by omega⟩
  have hj2 : j < m.rules.length := by omega
  have e0 : ruleB m (j : Int) = m.rules[j] := by
    unfold ruleB
    rw [List.getD_eq_getElem?_getD, Int.toNat_natCast, List.getElem?_eq_getElem hj2]; rfl
  obtain ⟨g, off, rfl, hcr⟩ := hr.at hj2
  obtain ⟨c0, c1, c2⟩ := hcr j hj2
  obtain ⟨r, hrd⟩ : ∃ r, r = actB m ⟨k, j, b', c⟩ v := ⟨_, rfl⟩
  rw [← hrd]
  have HD : Hid (r = if k = 1 then (if 0 < b' then ⟨bitD m.rules[j].w (bitsD m.sy) b', -1, ⟨1, j, b' - 1, 0⟩, false⟩
    else ⟨bitD m.rules[j].w (bitsD m.sy) b', m.rules[j].m, ⟨2, j, bitsD m.sy - 1, 0⟩, false⟩)
    else if b' = 1 then ⟨v, m.rules[j].m, ⟨0, m.rules[j].n, 0, 0⟩, false⟩ else ⟨v, m.rules[j].m, ⟨2, j, b' - 1, 0⟩, false⟩) := by
    unfold Hid; rw [hrd]; unfold actB; simp only [if_neg hk0, e0]
  have hpl : (k = 1 ∧ 0 ≤ b' ∧ b' ≤ bitsD m.sy - 2) ∨ (k = 2 ∧ 1 ≤ b' ∧ b' ≤ bitsD m.sy - 1) := by
    rcases hp with ⟨h, _⟩ | ⟨h, _, h1, h2, _⟩ | ⟨h, _, h1, h2, _⟩
    · exact absurd h hk0
    · exact .inl ⟨h, h1, h2⟩
    · exact .inr ⟨h, h1, h2⟩
  rw [e0] at rw0 rw1
  clear hrm rn0 rn1 hp hru ra0 ra1 hcr e0 hrd
  generalize m.rules[j] = rr at *
  obtain ⟨rw_, rm, rn⟩ := rr
  simp only at c0 c1 c2 HD rw0 rw1
  have P0 := hXW.cell (hc 0 (by simp))
  have P1 := hXW.cell (hc 1 (by simp))
  have P2 := hXW.cell (hc 2 (by simp))
  have M0 := hXW.cell p0
  have M2 := hXW.cell p2
  have C0 := hXW.cell c0
  have C1 := hXW.cell c1
  have C2 := hXW.cell c2
  simp only [List.getElem_cons_zero, List.getElem_cons_succ, Nat.add_zero] at P0 P1 P2
  have M0' := M0
  rw [hW] at M0'
  clear hc
  have zW := Ext.drew W
  have N2 := zW.cell M2
  have D0 := zW.cell C0
  have D1 := zW.cell C1
  have D2 := zW.cell C2
  have Q1 := zW.cell P1
  have hI1 : (0 : Int) ≤ (j : Int) := by omega
  have hI2 : (j : Int) < (m.rules.length : Int) := by omega
  have hw3 : IntKind.i64.wrap (b' - 1) = b' - 1 := IntWalk.i64_in _ (by omega)
  have hw4 : IntKind.i64.wrap (bitsD m.sy - 1) = bitsD m.sy - 1 := IntWalk.i64_in _ (by omega)
  generalize hB : bitsD m.sy = B at *
  clear hB hl
  have hbk : (k == 0) = false := by simp [hk0]
  go_enter Tryz.func108, Tryz.ntmps108
  go_wp2_with fail
  try rw [← hW]
  clear hW M0'
  refine LB.mono ?_
  rintro e w' ⟨rfl, rfl⟩
  clear LB
  go_wp2_with fail
  refine wp_region_ordT 10 (readsT [0, 1, 2, 3, 4, 5, 6, 7, 8] (.stir 9 .done)) (by kernel_rfl) (by kernel_rfl) (fun _ _ _ _ _ h => h) ?_
  simp only [readsT]
  iterate 9 (refine wpOrdT_read (v := ?_) (by rfl) (Or.inl ⟨by rfl, fun x hx => ?_⟩) ?_; rotate_left; (· have a_N2 := hx.cell N2; have a_D0 := hx.cell D0; have a_D1 := hx.cell D1; have a_D2 := hx.cell D2; have a_Q1 := hx.cell Q1; go_simp; try with_reducible rfl); try simp only [Act.put, List.setIfInBounds_toArray, List.set_cons_zero, List.set_cons_succ])
  refine wpOrdT_stir (by rfl) (fun K hK => ?_)
  go_simp
  refine hK _ _ (Ext.alloc _ _) ?_
  clear hK K
  try simp only [Act.put, List.setIfInBounds_toArray, List.set_cons_zero, List.set_cons_succ]
  refine wpOrdT_done ?_
  try simp only [List.drop_succ_cons, List.drop_zero]
  obtain ⟨gR, hgR⟩ : ∃ k, W.heap.size = k := ⟨_, rfl⟩
  have hDs : W.drew.heap.size = gR := hgR
  obtain ⟨Y, hY⟩ : ∃ Y, Y = (W.alloc (.cells #[.int .i64 rw_, .int .i64 rm, .int .i64 rn] 98)).drew := ⟨_, rfl⟩
  have hXY0 : Ext W Y := by rw [hY]; exact (Ext.alloc _ _).trans (Ext.drew _)
  have bR : Blk Y gR 98 #[.int .i64 rw_, .int .i64 rm, .int .i64 rn] := by rw [hY]; exact (Blk.new _ _ _ _ hgR).drew
  have hXY := hXW.trans hXY0
  have P0 := hXY0.cell P0
  have P1 := hXY0.cell P1
  have P2 := hXY0.cell P2
  have bZY := bZ.ext hXY0
  clear N2 D0 D1 D2 Q1 M0 M2 C0 C1 C2 zW
  have r0 := bR.cell 0
  have r1 := bR.cell 1
  have r2 := bR.cell 2
  simp only [List.getElem?_toArray, List.getElem?_cons_zero, List.getElem?_cons_succ] at r0 r1 r2
  have zY := Ext.drew Y
  have hXD := hXY.trans zY
  have bZD := bZY.ext zY
  have t0 := zY.cell r0
  have t1 := zY.cell r1
  have Q1 := zY.cell P1
  have Q2 := zY.cell P2
  go_upto_region 14 with fail
  try rw [← hY]
  try rw [hDs]
  try rw [hgR]
  clear hY hDs
  rcases hpl with ⟨rfl, q0, q1⟩ | ⟨rfl, q0, q1⟩
  · rw [if_pos rfl] at HD
    have BA := fun w => l13Bit_c rw_ B b' w (by omega) (by omega) q0 (by omega) rw0 (by omega)
    obtain ⟨bb, hbb⟩ : ∃ bb, bitD rw_ B b' = bb := ⟨_, rfl⟩
    rw [hbb] at BA HD
    clear hbb
    by_cases hb : 0 < b'
    · have HE := Lib.hid (HD.out.trans (if_pos hb))
      go_wp2_with fail
      clear HD
      refine wp_region_ordT 12 (readsT [0, 1, 2, 3, 5, 6, 7, 8, 9] (.fork 4 (.stir 10 (.stir 11 .done)) 10 (.stir 4 (.stir 11 .done)))) (by kernel_rfl) (by kernel_rfl) (fun _ _ _ _ _ h => h) ?_
      simp only [readsT]
      generalize Y.drew = X at *
      iterate 9 (refine wpOrdT_read (v := ?_) (by rfl) (Or.inl ⟨by rfl, fun x hx => ?_⟩) ?_; rotate_left; (· have a_t0 := hx.cell t0; have a_Q1 := hx.cell Q1; go_simp; try with_reducible rfl); try simp only [Act.put, List.setIfInBounds_toArray, List.set_cons_zero, List.set_cons_succ])
      obtain ⟨gL, hgL⟩ : ∃ k, X.heap.size = k := ⟨_, rfl⟩
      obtain ⟨V, hV⟩ : ∃ V, V = X.alloc (.cells #[.int .i64 (1), .int .i64 ((j : Int)), .int .i64 (b' - 1)] 2) := ⟨_, rfl⟩
      have hXV0 : Ext X V := by rw [hV]; exact Ext.alloc _ _
      have hXV : Ext w V := hXD.trans hXV0
      have bL : Blk V gL 2 (ivs [1, (j : Int), b' - 1]).toArray := by rw [hV]; exact Blk.new _ _ _ _ hgL
      have bZV := bZD.ext hXV0
      have hlt : w.heap.size < gL := by have := bZD.lt; omega
      refine wpOrdT_forks (by rfl) (by rfl) (fun K hK => ?_) (fun K hK => ?_)
      · go_simp
        go_at_call 80
        refine (BA _).mono ?_
        rintro e w' ⟨rfl, rfl⟩
        refine hK (Ext X) _ _ (fun _ h => h) (Ext.refl _) ?_
        clear hK K
        refine wpOrdT_keep (by rfl) (fun K hK => ?_)
        go_simp
        refine hK _ _ (Ext.alloc _ _) ?_
        clear hK K
        try rw [hw3]
        rw [← hV]
        try rw [hgL]
        clear hV
        refine wpOrdT_keep (by rfl) (fun K hK => ?_)
        go_simp
        go_at_call 122
        refine (l13Go_c _ _ _ _ _ _).mono ?_
        rintro e w9 ⟨rfl, hx9⟩
        refine hK _ _ (hXV0.trans hx9) ?_
        clear hK K
        refine wpOrdT_done ?_
        try simp only [List.drop_succ_cons, List.drop_zero]
        have z0 := (bZV.ext hx9).cell
        have z1 := (bZV.ext hx9).frozen
        go_wp2
        refine bodyPost_ret (v := .agg #[.bool true, .int .i64 (bb), .int .i64 (-1), .slice (some ⟨gL, 0, none⟩) 3 3]) (by simp [results, Tryz.results108, go_sem, z0]) rfl ?_
        rw [HE.out]
        exact moveB_done (zs := [1, (j : Int), b' - 1]) hXV hx9 bL hlt rfl (by simp) ⟨1, (j : Int), b' - 1, 0⟩ (by simp [encB])
      · go_simp
        refine hK (Ext X) _ _ (fun _ h => h) (Ext.alloc _ _) ?_
        clear hK K
        try rw [hw3]
        rw [← hV]
        try rw [hgL]
        clear hV
        refine wpOrdT_keep (by rfl) (fun K hK => ?_)
        go_simp
        go_at_call 80
        refine (BA _).mono ?_
        rintro e w' ⟨rfl, rfl⟩
        refine hK _ _ hXV0 ?_
        clear hK K
        refine wpOrdT_keep (by rfl) (fun K hK => ?_)
        go_simp
        go_at_call 122
        refine (l13Go_c _ _ _ _ _ _).mono ?_
        rintro e w9 ⟨rfl, hx9⟩
        refine hK _ _ (hXV0.trans hx9) ?_
        clear hK K
        refine wpOrdT_done ?_
        try simp only [List.drop_succ_cons, List.drop_zero]
        have z0 := (bZV.ext hx9).cell
        have z1 := (bZV.ext hx9).frozen
        go_wp2
        refine bodyPost_ret (v := .agg #[.bool true, .int .i64 (bb), .int .i64 (-1), .slice (some ⟨gL, 0, none⟩) 3 3]) (by simp [results, Tryz.results108, go_sem, z0]) rfl ?_
        rw [HE.out]
        exact moveB_done (zs := [1, (j : Int), b' - 1]) hXV hx9 bL hlt rfl (by simp) ⟨1, (j : Int), b' - 1, 0⟩ (by simp [encB])
    · have HE := Lib.hid (HD.out.trans (if_neg hb))
      obtain rfl : b' = 0 := by omega
      have hw3 := hw4
      go_wp2_with fail
      clear HD
      refine wp_region_ordT 13 (readsT [0, 1, 2, 4, 5, 6, 7, 8, 9, 10] (.fork 3 (.stir 11 (.stir 12 .done)) 11 (.stir 3 (.stir 12 .done)))) (by kernel_rfl) (by kernel_rfl) (fun _ _ _ _ _ h => h) ?_
      simp only [readsT]
      generalize Y.drew = X at *
      iterate 10 (refine wpOrdT_read (v := ?_) (by rfl) (Or.inl ⟨by rfl, fun x hx => ?_⟩) ?_; rotate_left; (· have a_t0 := hx.cell t0; have a_t1 := hx.cell t1; have a_Q1 := hx.cell Q1; go_simp; try with_reducible rfl); try simp only [Act.put, List.setIfInBounds_toArray, List.set_cons_zero, List.set_cons_succ])
      obtain ⟨gL, hgL⟩ : ∃ k, X.heap.size = k := ⟨_, rfl⟩
      obtain ⟨V, hV⟩ : ∃ V, V = X.alloc (.cells #[.int .i64 (2), .int .i64 ((j : Int)), .int .i64 (B - 1)] 2) := ⟨_, rfl⟩
      have hXV0 : Ext X V := by rw [hV]; exact Ext.alloc _ _
      have hXV : Ext w V := hXD.trans hXV0
      have bL : Blk V gL 2 (ivs [2, (j : Int), B - 1]).toArray := by rw [hV]; exact Blk.new _ _ _ _ hgL
      have bZV := bZD.ext hXV0
      have hlt : w.heap.size < gL := by have := bZD.lt; omega
      refine wpOrdT_forks (by rfl) (by rfl) (fun K hK => ?_) (fun K hK => ?_)
      · go_simp
        go_at_call 80
        refine (BA _).mono ?_
        rintro e w' ⟨rfl, rfl⟩
        refine hK (Ext X) _ _ (fun _ h => h) (Ext.refl _) ?_
        clear hK K
        refine wpOrdT_keep (by rfl) (fun K hK => ?_)
        go_simp
        refine hK _ _ (Ext.alloc _ _) ?_
        clear hK K
        try rw [hw3]
        rw [← hV]
        try rw [hgL]
        clear hV
        refine wpOrdT_keep (by rfl) (fun K hK => ?_)
        go_simp
        go_at_call 122
        refine (l13Go_c _ _ _ _ _ _).mono ?_
        rintro e w9 ⟨rfl, hx9⟩
        refine hK _ _ (hXV0.trans hx9) ?_
        clear hK K
        refine wpOrdT_done ?_
        try simp only [List.drop_succ_cons, List.drop_zero]
        have z0 := (bZV.ext hx9).cell
        have z1 := (bZV.ext hx9).frozen
        go_wp2
        refine bodyPost_ret (v := .agg #[.bool true, .int .i64 (bb), .int .i64 (rm), .slice (some ⟨gL, 0, none⟩) 3 3]) (by simp [results, Tryz.results108, go_sem, z0]) rfl ?_
        rw [HE.out]
        exact moveB_done (zs := [2, (j : Int), B - 1]) hXV hx9 bL hlt rfl (by simp) ⟨2, (j : Int), B - 1, 0⟩ (by simp [encB])
      · go_simp
        refine hK (Ext X) _ _ (fun _ h => h) (Ext.alloc _ _) ?_
        clear hK K
        try rw [hw3]
        rw [← hV]
        try rw [hgL]
        clear hV
        refine wpOrdT_keep (by rfl) (fun K hK => ?_)
        go_simp
        go_at_call 80
        refine (BA _).mono ?_
        rintro e w' ⟨rfl, rfl⟩
        refine hK _ _ hXV0 ?_
        clear hK K
        refine wpOrdT_keep (by rfl) (fun K hK => ?_)
        go_simp
        go_at_call 122
        refine (l13Go_c _ _ _ _ _ _).mono ?_
        rintro e w9 ⟨rfl, hx9⟩
        refine hK _ _ (hXV0.trans hx9) ?_
        clear hK K
        refine wpOrdT_done ?_
        try simp only [List.drop_succ_cons, List.drop_zero]
        have z0 := (bZV.ext hx9).cell
        have z1 := (bZV.ext hx9).frozen
        go_wp2
        refine bodyPost_ret (v := .agg #[.bool true, .int .i64 (bb), .int .i64 (rm), .slice (some ⟨gL, 0, none⟩) 3 3]) (by simp [results, Tryz.results108, go_sem, z0]) rfl ?_
        rw [HE.out]
        exact moveB_done (zs := [2, (j : Int), B - 1]) hXV hx9 bL hlt rfl (by simp) ⟨2, (j : Int), B - 1, 0⟩ (by simp [encB])
  · rw [if_neg (by decide : ¬ (2 : Int) = 1)] at HD
    by_cases hb : b' = 1
    · have HE := Lib.hid (HD.out.trans (if_pos hb))
      subst hb
      obtain ⟨gL, hgL⟩ : ∃ k, Y.heap.size = k := ⟨_, rfl⟩
      obtain ⟨V, hV⟩ : ∃ V, V = Y.alloc (.cells #[.int .i64 (0), .int .i64 (rn), .int .i64 (0), .int .i64 (0)] 2) := ⟨_, rfl⟩
      have hXV0 : Ext Y V := by rw [hV]; exact Ext.alloc _ _
      have hXV : Ext w V := hXY.trans hXV0
      have bL : Blk V gL 2 (ivs [0, rn, 0, 0]).toArray := by rw [hV]; exact Blk.new _ _ _ _ hgL
      have bZV := bZY.ext hXV0
      have hlt : w.heap.size < gL := by have := bZY.lt; omega
      go_wp2_with fail
      rw [← hV]
      try rw [hgL]
      clear hV
      refine (l13Go_c _ _ _ _ _ _).mono ?_
      rintro e w9 ⟨rfl, hx9⟩
      have z0 := (bZV.ext hx9).cell
      have z1 := (bZV.ext hx9).frozen
      go_wp2
      refine bodyPost_ret (v := .agg #[.bool true, .int .i64 (v), .int .i64 (rm), .slice (some ⟨gL, 0, none⟩) 4 4]) (by simp [results, Tryz.results108, go_sem, z0]) rfl ?_
      rw [HE.out]
      exact moveB_done (zs := [0, rn, 0, 0]) hXV hx9 bL hlt rfl (by simp) ⟨0, rn, 0, 0⟩ (by simp [encB])
    · have HE := Lib.hid (HD.out.trans (if_neg hb))
      go_wp2_with fail
      clear HD
      refine wp_region_ordT 12 (readsT [0, 1, 2, 3, 4, 5, 6, 7, 8, 9] (.stir 10 (.stir 11 .done))) (by kernel_rfl) (by kernel_rfl) (fun _ _ _ _ _ h => h) ?_
      simp only [readsT]
      generalize Y.drew = X at *
      iterate 10 (refine wpOrdT_read (v := ?_) (by rfl) (Or.inl ⟨by rfl, fun x hx => ?_⟩) ?_; rotate_left; (· have a_t1 := hx.cell t1; have a_Q1 := hx.cell Q1; have a_Q2 := hx.cell Q2; go_simp; try with_reducible rfl); try simp only [Act.put, List.setIfInBounds_toArray, List.set_cons_zero, List.set_cons_succ])
      obtain ⟨gL, hgL⟩ : ∃ k, X.heap.size = k := ⟨_, rfl⟩
      obtain ⟨V, hV⟩ : ∃ V, V = X.alloc (.cells #[.int .i64 (2), .int .i64 ((j : Int)), .int .i64 (b' - 1)] 2) := ⟨_, rfl⟩
      have hXV0 : Ext X V := by rw [hV]; exact Ext.alloc _ _
      have hXV : Ext w V := hXD.trans hXV0
      have bL : Blk V gL 2 (ivs [2, (j : Int), b' - 1]).toArray := by rw [hV]; exact Blk.new _ _ _ _ hgL
      have bZV := bZD.ext hXV0
      have hlt : w.heap.size < gL := by have := bZD.lt; omega
      refine wpOrdT_keep (by rfl) (fun K hK => ?_)
      go_simp
      refine hK _ _ (Ext.alloc _ _) ?_
      clear hK K
      try rw [hw3]
      rw [← hV]
      try rw [hgL]
      clear hV
      refine wpOrdT_keep (by rfl) (fun K hK => ?_)
      go_simp
      go_at_call 122
      refine (l13Go_c _ _ _ _ _ _).mono ?_
      rintro e w9 ⟨rfl, hx9⟩
      refine hK _ _ (hXV0.trans hx9) ?_
      clear hK K
      refine wpOrdT_done ?_
      try simp only [List.drop_succ_cons, List.drop_zero]
      have z0 := (bZV.ext hx9).cell
      have z1 := (bZV.ext hx9).frozen
      go_wp2
      refine bodyPost_ret (v := .agg #[.bool true, .int .i64 (v), .int .i64 (rm), .slice (some ⟨gL, 0, none⟩) 3 3]) (by simp [results, Tryz.results108, go_sem, z0]) rfl ?_
      rw [HE.out]
      exact moveB_done (zs := [2, (j : Int), b' - 1]) hXV hx9 bL hlt rfl (by simp) ⟨2, (j : Int), b' - 1, 0⟩ (by simp [encB])
theorem l13Binary_c (b : Nat) (m : MachD) (p : BP) (v : Int) (pv : Value) (w : World) (hM : MachAt w b m) (hm : machOk m = true) (hp : BiOk m p) (v0 : 0 ≤ v) (v1 : v < 2) (hpv : Ints w pv (encB p)) :
    Calls Tryz.prog 108 #[.pointer (some ⟨b, 0, none⟩), pv, .int .i64 v] w (MoveResB w (actB m p v)) := by
  obtain ⟨k, a, b', c⟩ := p
  by_cases hk : k = 0
  · subst hk
    have e : actB m ⟨0, a, b', c⟩ v = readB m ⟨0, a, b', c⟩ v := by simp [actB]
    rw [e]
    exact l13Binary0_c b m a b' c v pv w hM hm hp v0 v1 (by simpa [encB] using hpv)
  · exact l13Binary12_c b m k a b' c v pv w hM hm hk hp v0 v1 (by simpa [encB, hk] using hpv)
end Go.Proofs.YthhjbmlkncdigaaGreatDoor
end
section
set_option linter.unusedSimpArgs false
set_option linter.unusedVariables false
namespace Go.Proofs.YthhjbmlkncdigaaGreatDoor
open Go Go.RowKit Go.Proofs
set_option maxHeartbeats 4000000
/-- The maker, in memory. -/
structure MkBi (base : Nat) (w : World) (bk b : Nat) (sy st : Int) (rs : List RuleD) (ps : List BP) (rv pv : Value) (vs : List Value) : Prop where
  blk : Blk w bk 62 #[.pointer (some ⟨b, 0, none⟩), .pointer none, .int .i64 0, pv, .int .i64 sy, .int .i64 st, rv]
  rules : OwnRules base w rv rs
  places : w.ownsRow base 25 1 pv ps.length vs
  rows : ∀ (i : Nat) (p : BP), ps[i]? = some p → ∃ u, vs[i]? = some u ∧ OwnInts base w u (encB p)
  low : base ≤ bk
section
variable {base : Nat} {w w' : World} {bk b : Nat} {sy st : Int} {rs : List RuleD} {ps : List BP} {rv pv v' : Value} {vs : List Value}
theorem MkBi.ext (h : MkBi base w bk b sy st rs ps rv pv vs) (he : Ext w w') : MkBi base w' bk b sy st rs ps rv pv vs :=
  ⟨h.blk.ext he, h.rules.ext he, ownsRow_ext h.places he, fun i p hp => by obtain ⟨u, e, hu⟩ := h.rows i p hp; exact ⟨u, e, hu.ext he⟩, h.low⟩
theorem MkBi.ruled (h : MkBi base w bk b sy st rs ps rv pv vs) {r : RuleD} (hown : w'.ownsRow base 98 3 v' (rs.length + 1) (rvs rs ++ [.int .i64 r.w, .int .i64 r.m, .int .i64 r.n])) (hg : w.grownBy w' rv.ownBlock) :
    MkBi base (w'.setCell ⟨bk, 6, none⟩ v') bk b sy st (rs ++ [r]) ps v' pv vs := by
  have B5 := Blk.apart h.blk h.rules (by decide) hg
  have P5 := World.ownsRow.kept h.places hg (own_ne h.places h.rules (by decide))
  have hgs := grownBy_setCell w' ⟨bk, 6, none⟩ v'
  refine ⟨B5.set_ 6 v', ?_, own_kept P5 hgs (blk_ne_row B5 P5 (by decide)), fun i p hp => ?_, h.low⟩
  · have := own_kept hown hgs (blk_ne_row B5 hown (by decide))
    unfold OwnRules
    rw [rvs_append]
    simpa [rvs] using this
  · obtain ⟨u, e, hu⟩ := h.rows i p hp
    have hu5 := World.ownsRow.kept hu hg (own_ne hu h.rules (by decide))
    exact ⟨u, e, own_kept hu5 hgs (blk_ne_row B5 hu5 (by decide))⟩
theorem MkBi.added (h : MkBi base w bk b sy st rs ps rv pv vs) {u : Value} {x : BP} (hu : OwnInts base w u (encB x)) (hown : w'.ownsRow base 25 1 v' (ps.length + 1) (vs ++ [u])) (hg : w.grownBy w' pv.ownBlock) :
    MkBi base (w'.setCell ⟨bk, 3, none⟩ v') bk b sy st rs (ps ++ [x]) rv v' (vs ++ [u]) := by
  have B5 := Blk.apart h.blk h.places (by decide) hg
  have R5 : OwnRules base w' rv rs := World.ownsRow.kept h.rules hg (own_ne h.rules h.places (by decide))
  have hgs := grownBy_setCell w' ⟨bk, 3, none⟩ v'
  have hl := h.places.1
  have keep : ∀ {y : Value} {zs : List Int}, OwnInts base w y zs → OwnInts base (w'.setCell ⟨bk, 3, none⟩ v') y zs := fun hy => by
    have h5 := World.ownsRow.kept hy hg (own_ne hy h.places (by decide))
    exact own_kept h5 hgs (blk_ne_row B5 h5 (by decide))
  refine ⟨B5.set_ 3 v', own_kept R5 hgs (blk_ne_row B5 R5 (by decide)), ?_, fun i p hp => ?_, h.low⟩
  · have := own_kept hown hgs (blk_ne_row B5 hown (by decide))
    simpa using this
  · by_cases hi : i < ps.length
    · rw [List.getElem?_append_left hi] at hp
      obtain ⟨y, e, hy⟩ := h.rows i p hp
      exact ⟨y, by rw [List.getElem?_append_left (by omega), e], keep hy⟩
    · rw [List.getElem?_append_right (by omega)] at hp
      have h1 := (List.getElem?_eq_some_iff.1 hp).1
      have e0 : i - ps.length = 0 := by simp at h1; omega
      rw [e0] at hp
      simp at hp
      subst hp
      exact ⟨u, by rw [List.getElem?_append_right (by omega)]; have : i - vs.length = 0 := by omega
                   rw [this]; rfl, keep hu⟩
theorem MkBi.form (h : MkBi base w bk b sy st rs ps rv pv vs) : ∃ A c, pv = .slice A ps.length c := by
  obtain ⟨A, c, e, _⟩ := (ownsRow_row h.places).form
  exact ⟨A, c, e⟩
theorem MkBi.at {A : Option Addr} {c : Nat} (h : MkBi base w bk b sy st rs ps rv (.slice A ps.length c) vs) {k : Nat} {p : BP} (hp : ps[k]? = some p) :
    ∃ g A' c', A = some ⟨g, 0, none⟩ ∧ base ≤ g ∧ g < w.heap.size ∧ w.cell? ⟨g, k, none⟩ = some (.slice A' (encB p).length c') ∧ OwnInts base w (.slice A' (encB p).length c') (encB p) := by
  have hk : k < ps.length := (List.getElem?_eq_some_iff.1 hp).1
  obtain ⟨g, rfl, hb, hl⟩ := own_at h.places (by omega)
  obtain ⟨u, e, hu⟩ := h.rows k p hp
  obtain ⟨A', c', rfl, _, _⟩ := hu.ints.form
  have q0 := h.places.cellAt k (by have := h.places.1; omega)
  rw [e] at q0
  exact ⟨g, A', c', rfl, hb, hl, q0, hu⟩
end
def findBi (ps : List BP) (x : BP) : Int := if x ∈ ps then (ps.idxOf x : Nat) else -1
set_option maxRecDepth 20000 in
theorem findBi_c {base : Nat} {w : World} {bk b : Nat} {sy st : Int} {rs : List RuleD} {ps : List BP} {rv pv : Value} {vs : List Value} (h : MkBi base w bk b sy st rs ps rv pv vs) {m : MachD} (hok : ∀ p ∈ ps, BiOk m p) (x : BP) (hx : BiOk m x) (uv : Value) (hu : Ints w uv (encB x)) (hn : ps.length ≤ 1000000) :
    Calls Tryz.prog 45 #[.pointer (some ⟨bk, 0, none⟩), uv] w fun e w' => e = .returned (.int .i64 (findBi ps x)) ∧ Ext w w' := by
  obtain ⟨A, c, rfl⟩ := h.form
  obtain ⟨Au, cu, rfl, _, _⟩ := hu.form
  have HOK := Lib.hid hok
  clear hok
  go_enter Tryz.func45, Tryz.ntmps45
  go_wp2
  go_loopw [5] (fun i wr => ∃ k : Nat, k ≤ ps.length ∧ i = .int .i64 k ∧ Ext w wr ∧ Hid (∀ y ∈ ps.take k, y ≠ x)) (fun i _ => ps.length - (intOf i).toNat)
  case atStart => exact ⟨0, Nat.zero_le _, rfl, Ext.refl _, fun y hy => by simp at hy⟩
  case round =>
    obtain ⟨k, hk, rfl, hwr, hno⟩ := hrel
    have h' := h.ext hwr
    have c3 := h'.blk.cell 3
    simp only [List.getElem?_toArray, List.getElem?_cons_zero, List.getElem?_cons_succ] at c3
    by_cases hlt : k < ps.length
    · obtain ⟨p, hp⟩ : ∃ p, ps[k]? = some p := ⟨ps[k], List.getElem?_eq_getElem hlt⟩
      obtain ⟨g, A', c', rfl, _, _, q0, ho⟩ := h'.at hp
      have HP := Lib.hid (HOK.out p (List.mem_of_getElem? hp))
      go_wp2_with fail
      refine (l00Same_c _ _ _ _ _ ho.ints (hu.ext hwr)).mono ?_
      rintro e w' ⟨rfl, hx'⟩
      have hwr' := hwr.trans hx'
      clear hx'
      by_cases he : p = x
      · subst he
        have HR : Hid (findBi ps p = (k : Int)) := by
          unfold Hid findBi
          rw [if_pos (List.mem_of_getElem? hp)]
          congr 1
          have e1 : ps = ps.take k ++ p :: ps.drop (k + 1) := by
            have : ps[k] = p := by rw [List.getElem?_eq_getElem hlt] at hp; simpa using hp
            rw [← this, ← List.drop_eq_getElem_cons hlt, List.take_append_drop]
          rw [e1, List.idxOf_append, if_neg (fun hm => hno.out p hm rfl)]
          simp [List.idxOf_cons]
          omega
        rw [lEq_true rfl]
        go_wp2
        go_ret
        exact ⟨by rw [HR.out]; rfl, hwr'⟩
      · rw [lEq_false (fun e => he (encB_inj HP.out hx e))]
        go_wp2
        go_roundw
        case rel =>
          refine ⟨k + 1, by omega, by go_num, hwr', fun y hy => ?_⟩
          have : ps[k] = p := by rw [List.getElem?_eq_getElem hlt] at hp; simpa using hp
          rw [List.take_succ_eq_append_getElem hlt, this] at hy
          rcases List.mem_append.1 hy with h' | h'
          · exact hno.out y h'
          · simp at h'; subst h'; exact he
        case measure => simp [intOf]; omega
    · have HR : Hid (findBi ps x = -1) := by
        unfold Hid findBi
        rw [if_neg (fun hm => hno.out x (by rw [List.take_of_length_le (by omega)]; exact hm) rfl)]
      go_wp2
      go_ret
      exact ⟨by rw [HR.out]; rfl, hwr⟩
set_option maxRecDepth 20000 in
theorem moveBi_c (bk b : Nat) (m : MachD) (p : BP) (v : Int) (pv : Value) (x1 x3 x4 x5 x6 : Value) (w : World) (hB : Blk w bk 62 #[.pointer (some ⟨b, 0, none⟩), x1, .int .i64 0, x3, x4, x5, x6]) (hM : MachAt w b m) (hm : machOk m = true) (hp : BiOk m p) (v0 : 0 ≤ v) (v1 : v < 2) (hpv : Ints w pv (encB p)) :
    Calls Tryz.prog 81 #[.pointer (some ⟨bk, 0, none⟩), pv, .int .i64 v] w (MoveResB w (actB m p v)) := by
  obtain ⟨Ap, cp, rfl, _, _⟩ := hpv.form
  obtain ⟨W, hW⟩ : ∃ W, W = w.alloc (.cells #[.bool false, .int .i64 0, .int .i64 0, .slice none 0 0] 125) := ⟨_, rfl⟩
  have hXW : Ext w W := by rw [hW]; exact Ext.alloc _ _
  have bZ : Blk W w.heap.size 125 #[.bool false, .int .i64 0, .int .i64 0, .slice none 0 0] := by rw [hW]; exact Blk.new _ _ _ _ rfl
  have k0 := (hB.ext hXW).cell 0
  have k2 := (hB.ext hXW).cell 2
  simp only [List.getElem?_toArray, List.getElem?_cons_zero, List.getElem?_cons_succ] at k0 k2
  rw [hW] at k0 k2
  go_enter Tryz.func81, Tryz.ntmps81
  go_wp2_with fail
  rw [← hW]
  clear hW k0 k2
  refine (l13Binary_c b m p v _ W (hM.ext hXW) hm hp v0 v1 (hpv.ext hXW)).mono ?_
  clear hp
  generalize actB m p v = a at *
  rintro e w1 ⟨hres, hx1⟩
  have z0 := (bZ.ext hx1).cell
  have z1 := (bZ.ext hx1).frozen
  have hlt := bZ.lt
  rcases hres with ⟨hno, rfl⟩ | ⟨hno, A1, c1, rfl, ho1⟩
  · go_wp2
    refine bodyPost_ret (v := .agg #[.bool false, .int .i64 0, .int .i64 0, .slice none 0 0]) (by simp [results, Tryz.results81, go_sem, z0]) rfl ?_
    exact ⟨.inl ⟨hno, rfl⟩, (((Ext.setCell (Ext.trans hXW hx1) (Nat.le_refl _) _).setCell (Nat.le_refl _) _).setCell (Nat.le_refl _) _).setCell (Nat.le_refl _) _⟩
  · generalize hen : (encB a.p).length = n at *
    have HEN := Lib.hid hen
    clear hen
    go_wp2
    refine bodyPost_ret (v := .agg #[.bool true, .int .i64 a.w, .int .i64 a.m, .slice A1 n c1]) (by simp [results, Tryz.results81, go_sem, z0]) rfl ?_
    have hne' : ∀ k, (Value.slice A1 n c1).ownBlock = some k → k ≠ w.heap.size := fun k hk => by have := (World.ownsRow.lt ho1 k hk).1; omega
    have o2 : OwnInts w.heap.size w1 (.slice A1 n c1) (encB a.p) := ownsRow_base ho1 (by omega)
    refine ⟨.inr ⟨hno, A1, c1, by rw [HEN.out], ?_⟩, (((Ext.setCell (Ext.trans hXW hx1) (Nat.le_refl _) _).setCell (Nat.le_refl _) _).setCell (Nat.le_refl _) _).setCell (Nat.le_refl _) _⟩
    rw [HEN.out]
    exact ownsRow_far (ownsRow_far (ownsRow_far (ownsRow_far o2 hne' _) hne' _) hne' _) hne' _
end Go.Proofs.YthhjbmlkncdigaaGreatDoor
end
section
set_option linter.unusedSimpArgs false
set_option linter.unusedVariables false
namespace Go.Proofs.YthhjbmlkncdigaaGreatDoor
open Go Go.RowKit Go.Proofs
set_option maxHeartbeats 400000
def BuildSB (w0 : World) (m : MachD) (bk b : Nat) (e : Ending) (w' : World) : Prop :=
  ((binB m = none ∧ e = .returned (.bool false)) ∨
    ∃ s rv pv vs, binB m = some s ∧ e = .returned (.bool true) ∧ MkBi w0.heap.size w' bk b 2 s.1.length s.2 s.1 rv pv vs ∧ (∀ p ∈ s.1, BiOk m p) ∧ 1 ≤ s.1.length ∧ s.1.length ≤ 1000) ∧ Ext w0 w'
/-- How the building stands in memory. -/
structure InSB (w0 : World) (m : MachD) (N bk b : Nat) (s : List BP × List RuleD) (rv pv : Value) (vs : List Value) (wr : World) : Prop where
  st : MkBi w0.heap.size wr bk b (N : Int) 0 s.2 s.1 rv pv vs
  below : Ext w0 wr
  ok : ∀ p ∈ s.1, BiOk m p
theorem InSB.ext {w0 : World} {m : MachD} {N bk b : Nat} {s : List BP × List RuleD} {rv pv : Value} {vs : List Value} {wr wr' : World} (h : InSB w0 m N bk b s rv pv vs wr) (he : Ext wr wr') : InSB w0 m N bk b s rv pv vs wr' :=
  ⟨h.st.ext he, Ext.trans h.below he, h.ok⟩
theorem InSB.ruled {w0 : World} {m : MachD} {N bk b : Nat} {s : List BP × List RuleD} {rv pv v' : Value} {vs : List Value} {wr w5 : World} {r : RuleD} (h : InSB w0 m N bk b s rv pv vs wr)
    (hown : w5.ownsRow w0.heap.size 98 3 v' (s.2.length + 1) (rvs s.2 ++ [.int .i64 r.w, .int .i64 r.m, .int .i64 r.n])) (hg : wr.grownBy w5 rv.ownBlock) :
    InSB w0 m N bk b (s.1, s.2 ++ [r]) v' pv vs (w5.setCell ⟨bk, 6, none⟩ v') :=
  ⟨h.st.ruled hown hg, (Below.grown h.below hg (Ext.size h.below) (fun b hb => (World.ownsRow.lt h.st.rules b hb).1)).setCell h.st.low _, h.ok⟩
theorem InSB.added {w0 : World} {m : MachD} {N bk b : Nat} {s : List BP × List RuleD} {rv pv v' u : Value} {vs : List Value} {wr w5 : World} {x : BP} (h : InSB w0 m N bk b s rv pv vs wr) (hu : OwnInts w0.heap.size wr u (encB x)) (hx : BiOk m x)
    (hown : w5.ownsRow w0.heap.size 25 1 v' (s.1.length + 1) (vs ++ [u])) (hg : wr.grownBy w5 pv.ownBlock) :
    InSB w0 m N bk b (s.1 ++ [x], s.2) rv v' (vs ++ [u]) (w5.setCell ⟨bk, 3, none⟩ v') :=
  ⟨h.st.added hu hown hg, (Below.grown h.below hg (Ext.size h.below) (fun b hb => (World.ownsRow.lt h.st.places b hb).1)).setCell h.st.low _, fun p hp => by
    rcases List.mem_append.1 hp with h' | h'
    · exact h.ok p h'
    · simp at h'; subst h'; exact hx⟩
set_option maxHeartbeats 40000000 in
set_option maxRecDepth 20000 in
theorem buildSB_c (w0 w : World) (bk b : Nat) (m : MachD) (g : Nat) (hM : MachAt w0 b m) (h0 : Ext w0 w) (hk : w0.heap.size ≤ bk) (hB : Blk w bk 62 #[.pointer (some ⟨b, 0, none⟩), .pointer none, .int .i64 0, .slice none 0 0, .int .i64 0, .int .i64 0, .slice none 0 0])
    (hf : OwnInts w0.heap.size w (.slice (some ⟨g, 0, none⟩) 4 4) [0, 0, 0, 0]) (hm : machOk m = true) :
    Calls Tryz.prog 48 #[.pointer (some ⟨bk, 0, none⟩), .int .i64 2, .slice (some ⟨g, 0, none⟩) 4 4] w (BuildSB w0 m bk b) := by
  obtain ⟨s1, s2, s3, s4, hl⟩ := machOk_all hm
  obtain ⟨N, hN⟩ : ∃ N : Nat, (2 : Int) = N := ⟨2, rfl⟩
  have HB : Hid (binB m = bld (actB m) bp0 N) := by unfold Hid binB; rw [show N = 2 by omega]
  rw [hN]
  have n3 : 2 ≤ N := by omega
  have n6 : N ≤ 6 := by omega
  have HN := Lib.hid hN
  clear hN hl
  have k0 := hB.cell
  have kf := hB.frozen
  have hbk := hB.lt
  have k1 := (hB.alloc (.cells #[.slice (some ⟨g, 0, none⟩) 4 4] 25)).cell
  have kf1 := (hB.alloc (.cells #[.slice (some ⟨g, 0, none⟩) 4 4] 25)).frozen
  obtain ⟨i0, hi, hz0, hz1, hz2⟩ := info_parts ruleInfo
  obtain ⟨j0, hjI, hy0, hy1, hy2⟩ := info_parts rowInfo
  go_enter Tryz.func48, Tryz.ntmps48
  go_wp2
  obtain ⟨W, hW⟩ : ∃ W, W = ((((((w.setCell ⟨bk, 3, none⟩ (.slice (some ⟨w.heap.size, 0, none⟩) 1 1)).setCell ⟨bk, 4, none⟩ (.int .i64 N)).setCell ⟨bk, 5, none⟩ (.int .i64 0)).setCell ⟨bk, 6, none⟩ (.slice (some ⟨w.heap.size + 1, 0, none⟩) 0 0)).alloc (.cells #[.slice (some ⟨g, 0, none⟩) 4 4] 25)).alloc (.cells #[] 98)) := ⟨_, rfl⟩
  have hsw := Ext.size h0
  have HI : InSB w0 m N bk b ([bp0], []) (.slice (some ⟨w.heap.size + 1, 0, none⟩) 0 0) (.slice (some ⟨w.heap.size, 0, none⟩) 1 1) [.slice (some ⟨g, 0, none⟩) 4 4] W := by
    have hne : ∀ k, (Value.slice (some ⟨g, 0, none⟩) 4 4).ownBlock = some k → k ≠ bk := fun k hk e => by
      have := blk_ne_row hB hf (by decide)
      rw [hk, e] at this
      exact this rfl
    have f4 := ownsRow_far (ownsRow_far (ownsRow_far (ownsRow_far hf (p := ⟨bk, 3, none⟩) hne (.slice (some ⟨w.heap.size, 0, none⟩) 1 1)) (p := ⟨bk, 4, none⟩) hne (.int .i64 N)) (p := ⟨bk, 5, none⟩) hne (.int .i64 0)) (p := ⟨bk, 6, none⟩) hne (.slice (some ⟨w.heap.size + 1, 0, none⟩) 0 0)
    have b4 := (((hB.set_ 3 (.slice (some ⟨w.heap.size, 0, none⟩) 1 1)).set_ 4 (.int .i64 N)).set_ 5 (.int .i64 0)).set_ 6 (.slice (some ⟨w.heap.size + 1, 0, none⟩) 0 0)
    have x4 := ((((Ext.setCell h0 (p := ⟨bk, 3, none⟩) hk (.slice (some ⟨w.heap.size, 0, none⟩) 1 1)).setCell (p := ⟨bk, 4, none⟩) hk (.int .i64 N)).setCell (p := ⟨bk, 5, none⟩) hk (.int .i64 0)).setCell (p := ⟨bk, 6, none⟩) hk (.slice (some ⟨w.heap.size + 1, 0, none⟩) 0 0))
    have hs4 : ((((w.setCell ⟨bk, 3, none⟩ (.slice (some ⟨w.heap.size, 0, none⟩) 1 1)).setCell ⟨bk, 4, none⟩ (.int .i64 N)).setCell ⟨bk, 5, none⟩ (.int .i64 0)).setCell ⟨bk, 6, none⟩ (.slice (some ⟨w.heap.size + 1, 0, none⟩) 0 0)).heap.size = w.heap.size := by simp [World.setCell]
    generalize ((((w.setCell ⟨bk, 3, none⟩ (.slice (some ⟨w.heap.size, 0, none⟩) 1 1)).setCell ⟨bk, 4, none⟩ (.int .i64 N)).setCell ⟨bk, 5, none⟩ (.int .i64 0)).setCell ⟨bk, 6, none⟩ (.slice (some ⟨w.heap.size + 1, 0, none⟩) 0 0)) = w4 at *
    subst hW
    have ea := (Ext.alloc w4 (.cells #[.slice (some ⟨g, 0, none⟩) 4 4] 25)).trans (Ext.alloc _ (.cells #[] 98))
    refine ⟨⟨b4.ext ea, ?_, ?_, fun i p hp => ?_, hk⟩, x4.trans ea, fun p hp => ?_⟩
    · have := World.ownsRow_made (base := w0.heap.size) (e := 98) (size := 3) (w4.alloc (.cells #[.slice (some ⟨g, 0, none⟩) 4 4] 25)) #[] 0 (by simp; omega) (by unfold maxLen; omega) (by simp)
      simpa [OwnRules, rvs, hs4] using this
    · refine ⟨by simp, .inr ⟨w.heap.size, 1, #[.slice (some ⟨g, 0, none⟩) 4 4], rfl, hsw, ?_, Nat.le_refl _, by unfold maxLen; omega, by simp, by simp⟩⟩
      exact ((Blk.new w4 w.heap.size 25 _ hs4).alloc _)
    · have h1 := (List.getElem?_eq_some_iff.1 hp).1
      have e0 : i = 0 := by simp at h1; omega
      subst e0
      simp at hp
      subst hp
      exact ⟨_, rfl, by simpa [encB, bp0] using OwnInts.ext f4 ea⟩
    · simp at hp
      subst hp
      exact bp0_ok hm
  rw [← hW]
  clear hW k0 kf k1 kf1 hB hf h0
  go_loopw [7] (fun i wr => ∃ (k : Nat) (s : List BP × List RuleD) (rv pv : Value) (vs : List Value), i = .int .i64 k ∧ BldAt (actB m) bp0 N k s ∧ InSB w0 m N bk b s rv pv vs wr) (fun i _ => 1001 - (intOf i).toNat)
  case atStart => exact ⟨0, ([bp0], []), _, _, _, rfl, BldAt.start _ _ _, HI⟩
  case round =>
    clear HI
    obtain ⟨k, s, rv, pv, vs, rfl, hB, inv⟩ := hrel
    have hk1 := hB.le
    have hk2 := hB.most
    obtain ⟨Ap, cp, rfl⟩ := inv.st.form
    have c3 := inv.st.blk.cell 3
    simp only [List.getElem?_toArray, List.getElem?_cons_zero, List.getElem?_cons_succ] at c3
    by_cases hlt : k < s.1.length
    · obtain ⟨p, hp⟩ : ∃ p, s.1[k]? = some p := ⟨s.1[k], List.getElem?_eq_getElem hlt⟩
      have hpo : BiOk m p := inv.ok p (List.mem_of_getElem? hp)
      go_wp2
      go_loopw [8] (fun i wr' => ∃ (j : Nat) (rv pv : Value) (vs : List Value), j ≤ N ∧ i = .int .i64 j ∧ (rowTo (actB m) p s j).1.length ≤ 1000 ∧ InSB w0 m N bk b (rowTo (actB m) p s j) rv pv vs wr') (fun i _ => N - (intOf i).toNat)
      case atStart => exact ⟨0, _, _, _, Nat.zero_le _, rfl, hk2, inv⟩
      case round =>
        clear inv c3
        obtain ⟨j, rv, pv, vs, hj, rfl, hlen1, inv⟩ := hrel
        by_cases hjn : j < N
        · have fv0 : (0 : Int) ≤ (j : Int) := by omega
          have fv1 : (j : Int) < 2 := by have := HN.out; omega
          have hpj : (rowTo (actB m) p s j).1[k]? = some p := by
            obtain ⟨t, ht⟩ := rowTo_prefix (actB m) p s j
            rw [← ht, List.getElem?_append_left hlt]; exact hp
          have htl : (rowTo (actB m) p s j).2.length ≤ 6600 := by
            have h1 := rowTo_length (actB m) p s j
            have h2 := hB.rules
            have h3 : k * N ≤ 1000 * 6 := Nat.mul_le_mul (by omega) n6
            omega
          have HRT : Hid (rowTo (actB m) p s (j + 1) = symStep (actB m) p (rowTo (actB m) p s j) j) := rfl
          have HF : Hid (1000 < (symStep (actB m) p (rowTo (actB m) p s j) j).1.length → binB m = none) := by
            unfold Hid
            intro hbig
            rw [HB.out]
            refine hB.fails hlt hp (Nat.lt_of_lt_of_le hbig ?_)
            have := rowTo_le (actB m) p s (show j + 1 ≤ N by omega)
            exact this
          have HBA := Lib.hid hB
          clear hB
          generalize rowTo (actB m) p s j = t at *
          have hkt : k < t.1.length := (List.getElem?_eq_some_iff.1 hpj).1
          obtain ⟨Ap, cp, rfl⟩ := inv.st.form
          obtain ⟨gp, A', c', rfl, hgp1, hgp2, a0, ho⟩ := inv.st.at hpj
          have c3 := inv.st.blk.cell 3
          simp only [List.getElem?_toArray, List.getElem?_cons_zero, List.getElem?_cons_succ] at c3
          go_wp2_with fail
          refine (moveBi_c bk b m p j _ _ _ _ _ _ wr inv.st.blk (hM.ext inv.below) hm hpo fv0 fv1 ho.ints).mono ?_
          have hap := fun hno => (actB_ok hm hpo fv0 fv1 (v := (j : Int)) hno).1
          have hsN := fun hno => symStep_no (act := actB m) (p := p) (s := t) (v := (j : Int)) hno
          have hsY := fun hno => symStep_yes (act := actB m) (p := p) (s := t) (v := (j : Int)) hno
          generalize hST : symStep (actB m) p t j = st at *
          clear hST
          generalize actB m p j = a at *
          rintro e w3 ⟨hres, hx3⟩
          have inv4 := inv.ext hx3
          clear c3 a0
          rcases hres with ⟨hno, rfl⟩ | ⟨hno, A1, c1, rfl, ho1⟩
          · have HS := Lib.hid (hsN hno)
            clear hsN hsY hap HF
            obtain ⟨U, hU⟩ : ∃ U, U = w3.alloc (.cells #[.bool false, .int .i64 0, .int .i64 0, .slice none 0 0] 125) := ⟨_, rfl⟩
            have hXU : Ext w3 U := by rw [hU]; exact Ext.alloc _ _
            have inv5 := inv4.ext hXU
            go_wp2_with fail
            rw [← hU]
            clear hU
            have hrl : OwnRules w0.heap.size U rv t.2 := inv5.st.rules
            obtain ⟨Ar, cr, rfl, _, _, _⟩ := (ownsRow_row hrl).form
            have c6 := inv5.st.blk.cell 6
            simp only [List.getElem?_toArray, List.getElem?_cons_zero, List.getElem?_cons_succ] at c6
            have hsU := Ext.size inv5.below
            go_region_law
              (first
                | (refine step_append_lies _ (by rfl) _ _ _ (by rfl) w0.heap.size 98 i0 _ 3 24 Tryz.underlying33 hi hz0 hz1 hz2 rfl (by omega) _ _ (rvs t.2) (by first | rfl | simp [Act.eval, Act.put]) (OwnRules.ext hrl e6) ⟨w5.heap.size, 0, none⟩ 1 1 [.int .i64 0, .int .i64 0, .int .i64 (-1)] (by first | rfl | simp [Act.eval, Act.put]) rfl (World.news_of_block (w := w5.alloc (.cells #[.int .i64 0, .int .i64 0, .int .i64 (-1)] 98)) (heap_alloc_new w5 _)) (by simp [Value.oneCell']) (by omega) (by unfold maxLen; omega) (by omega) hsz6 (w5.heap.size + 1) (by simp) ?_; intro g7 cap w7 hown7 hg7 hat7 hlt7; have I7 := I6.ruled (r := ⟨0, 0, -1⟩) hown7 hg7; have B7 := Blk.apart I6.st.blk I6.st.rules (by decide) hg7; have z2 := B7.cell 6; have f2 := B7.frozen 6; simp only [List.getElem?_toArray, List.getElem?_cons_zero, List.getElem?_cons_succ] at z2)
                | (go_simp; go_at_call 82; ((with_reducible refine (l05None_c _).mono ?_)); rintro e w5 ⟨rfl, hx5⟩; have e5 := (Ext.drew U).trans hx5; have e6 := e5.trans (Ext.alloc w5 (.cells #[.int .i64 0, .int .i64 0, .int .i64 (-1)] 98)); have I6 := inv5.ext e6; have c65 := e5.cell c6; have c66 := e6.cell c6; have hsz6 : w0.heap.size ≤ (w5.alloc (.cells #[.int .i64 0, .int .i64 0, .int .i64 (-1)] 98)).heap.size := Ext.size I6.below))
            all_goals
              try go_wp2
              go_roundw
              case rel => exact ⟨j + 1, _, _, _, by omega, by go_num, by rw [HRT.out, HS.out]; exact hlen1, by rw [HRT.out, HS.out]; exact I7⟩
              case measure => simp [intOf]; omega
          · have HS := Lib.hid (hsY hno)
            have HAP := Lib.hid (hap hno)
            clear hsN hsY hap
            have o4 : OwnInts w0.heap.size w3 (.slice A1 (encB a.p).length c1) (encB a.p) := ownsRow_base ho1 (Ext.size inv.below)
            obtain ⟨aw, am, ap, ano⟩ := a
            simp only at hno HS HAP o4
            clear ho1
            generalize hen : (encB ap).length = en at *
            have HEN := Lib.hid hen
            clear hen
            obtain ⟨U, hU⟩ : ∃ U, U = w3.alloc (.cells #[.bool true, .int .i64 aw, .int .i64 am, .slice A1 en c1] 125) := ⟨_, rfl⟩
            have hXU : Ext w3 U := by rw [hU]; exact Ext.alloc _ _
            have bA : Blk U w3.heap.size 125 #[.bool true, .int .i64 aw, .int .i64 am, .slice A1 en c1] := by rw [hU]; exact Blk.new _ _ _ _ rfl
            have inv5 := inv4.ext hXU
            have o5 : OwnInts w0.heap.size U (.slice A1 en c1) (encB ap) := OwnInts.ext o4 hXU
            go_wp2_with fail
            rw [← hU]
            clear hU
            refine (findBi_c inv5.st inv5.ok ap HAP.out _ o5.ints (by omega)).mono ?_
            rintro e w6 ⟨rfl, hx6⟩
            have inv6 := inv5.ext hx6
            have bA6 := bA.ext hx6
            have o6 := o5.ext hx6
            clear inv5 bA o5 inv4 o4
            by_cases hin : ap ∈ t.1
            · have hfn : findBi t.1 ap = (t.1.idxOf ap : Nat) := by simp [findBi, hin]
              rw [hfn]
              rw [addP_old hin] at HS
              have hneg : decide (((t.1.idxOf ap : Nat) : Int) < 0) = false := by simp
              go_wp2_with fail
              have hrl : OwnRules w0.heap.size w6 rv t.2 := inv6.st.rules
              obtain ⟨Ar, cr, rfl, _, _, _⟩ := (ownsRow_row hrl).form
              have eA := (Ext.alloc w6 (.cells #[.int .i64 aw, .int .i64 am, .int .i64 (t.1.idxOf ap : Nat)] 98)).trans (Ext.drew _)
              have I6 := inv6.ext eA
              have c6 := inv6.st.blk.cell 6
              have c6' := (inv6.st.blk.alloc (.cells #[.int .i64 aw, .int .i64 am, .int .i64 (t.1.idxOf ap : Nat)] 98)).cell 6
              have q1 := bA6.cell 1
              have q2 := bA6.cell 2
              simp only [List.getElem?_toArray, List.getElem?_cons_zero, List.getElem?_cons_succ] at c6 c6' q1 q2
              have hsU := Ext.size inv6.below
              go_region_law ((refine step_append_lies _ (by rfl) _ _ _ (by rfl) w0.heap.size 98 i0 _ 3 24 Tryz.underlying33 hi hz0 hz1 hz2 rfl (by omega) _ _ (rvs t.2) (by first | rfl | simp [Act.eval, Act.put]) (OwnRules.ext hrl eA) ⟨w6.heap.size, 0, none⟩ 1 1 [.int .i64 aw, .int .i64 am, .int .i64 (t.1.idxOf ap : Nat)] (by first | rfl | simp [Act.eval, Act.put]) rfl (World.news_of_block (w := (w6.alloc (.cells #[.int .i64 aw, .int .i64 am, .int .i64 (t.1.idxOf ap : Nat)] 98)).drew) (heap_alloc_new w6 _)) (by simp [Value.oneCell']) (by omega) (by unfold maxLen; omega) (by omega) (by simp; omega) (w6.heap.size + 1) (by simp) ?_; intro g7 cap w7 hown7 hg7 hat7 hlt7; have I7 := I6.ruled (r := ⟨aw, am, (t.1.idxOf ap : Nat)⟩) hown7 hg7; have B7 := Blk.apart I6.st.blk I6.st.rules (by decide) hg7; have z2 := B7.cell 6; have f2 := B7.frozen 6; simp only [List.getElem?_toArray, List.getElem?_cons_zero, List.getElem?_cons_succ] at z2))
              all_goals
                try go_wp2
                go_roundw
                case rel => exact ⟨j + 1, _, _, _, by omega, by go_num, by rw [HRT.out, HS.out]; exact hlen1, by rw [HRT.out, HS.out]; exact I7⟩
                case measure => simp [intOf]; omega
            · have hfn : findBi t.1 ap = -1 := by simp [findBi, hin]
              rw [hfn]
              rw [idx_new hin, addP_new hin] at HS
              have c3 := inv6.st.blk.cell 3
              simp only [List.getElem?_toArray, List.getElem?_cons_zero, List.getElem?_cons_succ] at c3
              by_cases h1000 : t.1.length = 1000
              · have hb1000 : ((t.1.length : Int) == 1000) = true := by simp [h1000]
                have HNO : Hid (binB m = none) := by
                  unfold Hid
                  refine HF.out ?_
                  rw [HS.out]
                  simp
                  omega
                clear h1000
                go_wp2
                go_ret
                exact ⟨.inl ⟨HNO.out, rfl⟩, inv6.below⟩
              · have hb1000 : ((t.1.length : Int) == 1000) = false := by simp; omega
                have eB := (Ext.alloc w6 (.cells #[.slice A1 en c1] 25)).trans (Ext.drew _)
                have I8 := inv6.ext eB
                have o8 := OwnInts.ext o6 eB
                have c3' := (inv6.st.blk.alloc (.cells #[.slice A1 en c1] 25)).cell 3
                have q3 := bA6.cell 3
                simp only [List.getElem?_toArray, List.getElem?_cons_zero, List.getElem?_cons_succ] at c3' q3
                have hs6 := Ext.size inv6.below
                have bA8 := bA6.ext eB
                go_wp2
                go_region_law ((refine step_append_lies _ (by rfl) _ _ _ (by rfl) w0.heap.size 25 j0 _ 1 24 Tryz.underlying60 hjI hy0 hy1 hy2 rfl (by omega) _ _ vs (by first | rfl | simp [Act.eval, Act.put]) I8.st.places ⟨w6.heap.size, 0, none⟩ 1 1 [.slice A1 en c1] (by first | rfl | simp [Act.eval, Act.put]) rfl (World.news_of_block (w := (w6.alloc (.cells #[.slice A1 en c1] 25)).drew) (heap_alloc_new w6 _)) (by simp [Value.oneCell']) (by omega) (by unfold maxLen; omega) (by omega) (by simp; omega) (w6.heap.size + 1) (by simp) ?_; intro g9 cap9 w9 hown9 hg9 hat9 hlt9; have I9 := I8.added o8 HAP.out hown9 hg9; have B9 := Blk.apart I8.st.blk I8.st.places (by decide) hg9; have z9 := B9.cell 3; have f9 := B9.frozen 3; have bA9 := (Blk.apart bA8 I8.st.places (by decide) hg9).far (p := ⟨bk, 3, none⟩) (blk_ne (Blk.apart bA8 I8.st.places (by decide) hg9) B9 (by decide)) (.slice (some ⟨g9, 0, none⟩) (t.1.length + 1) cap9); simp only [List.getElem?_toArray, List.getElem?_cons_zero, List.getElem?_cons_succ] at z9))
                all_goals
                  obtain ⟨X, hX⟩ : ∃ X, X = w9.setCell ⟨bk, 3, none⟩ (.slice (some ⟨g9, 0, none⟩) (t.1.length + 1) cap9) := ⟨_, rfl⟩
                  rw [← hX] at I9 bA9 ⊢
                  clear hX c3 c3' z9 f9 q3 I8
                  try go_wp2_with fail
                  have hrl : OwnRules w0.heap.size X rv t.2 := I9.st.rules
                  obtain ⟨Ar, cr, rfl, _, _, _⟩ := (ownsRow_row hrl).form
                  have eA := (Ext.alloc X (.cells #[.int .i64 aw, .int .i64 am, .int .i64 (t.1.length : Nat)] 98)).trans (Ext.drew _)
                  have I6 := I9.ext eA
                  have c6 := I9.st.blk.cell 6
                  have c6' := (I9.st.blk.alloc (.cells #[.int .i64 aw, .int .i64 am, .int .i64 (t.1.length : Nat)] 98)).cell 6
                  have q1 := bA9.cell 1
                  have q2 := bA9.cell 2
                  simp only [List.getElem?_toArray, List.getElem?_cons_zero, List.getElem?_cons_succ] at c6 c6' q1 q2
                  have hsU := Ext.size I9.below
                  go_region_law ((refine step_append_lies _ (by rfl) _ _ _ (by rfl) w0.heap.size 98 i0 _ 3 24 Tryz.underlying33 hi hz0 hz1 hz2 rfl (by omega) _ _ (rvs t.2) (by first | rfl | simp [Act.eval, Act.put]) (OwnRules.ext hrl eA) ⟨X.heap.size, 0, none⟩ 1 1 [.int .i64 aw, .int .i64 am, .int .i64 (t.1.length : Nat)] (by first | rfl | simp [Act.eval, Act.put]) rfl (World.news_of_block (w := (X.alloc (.cells #[.int .i64 aw, .int .i64 am, .int .i64 (t.1.length : Nat)] 98)).drew) (heap_alloc_new X _)) (by simp [Value.oneCell']) (by omega) (by unfold maxLen; omega) (by omega) (by simp; omega) (X.heap.size + 1) (by simp) ?_; intro g7 cap w7 hown7 hg7 hat7 hlt7; have I7 := I6.ruled (r := ⟨aw, am, (t.1.length : Nat)⟩) hown7 hg7; have B7 := Blk.apart I6.st.blk I6.st.rules (by decide) hg7; have z2 := B7.cell 6; have f2 := B7.frozen 6; simp only [List.getElem?_toArray, List.getElem?_cons_zero, List.getElem?_cons_succ] at z2))
                  all_goals
                    try go_wp2
                    go_roundw
                    case rel => exact ⟨j + 1, _, _, _, by omega, by go_num, by rw [HRT.out, HS.out]; (simp; omega), by rw [HRT.out, HS.out]; exact I7⟩
                    case measure => simp [intOf]; omega
        · have hjN : j = N := by omega
          subst hjN
          have HBN := Lib.hid (hB.step hlt hp hlen1)
          clear hB
          generalize rowTo (actB m) p s j = t at *
          go_wp2
          go_roundw
          case rel => exact ⟨k + 1, t, rv, pv, vs, by go_num, HBN.out, inv⟩
          case measure => simp [intOf]; omega
    · have HBN := Lib.hid (hB.ends hlt)
      have one := hB.one
      clear hB
      have f5 := inv.st.blk.frozen 5
      have c5 := inv.st.blk.cell 5
      simp only [List.getElem?_toArray, List.getElem?_cons_zero, List.getElem?_cons_succ] at c5
      go_wp2
      go_ret
      have hgs := grownBy_setCell wr ⟨bk, 5, none⟩ (.int .i64 (s.1.length : Nat))
      refine ⟨.inr ⟨s, rv, _, vs, HB.out.trans HBN.out, rfl, ⟨?_, own_kept inv.st.rules hgs (blk_ne_row inv.st.blk inv.st.rules (by decide)), own_kept inv.st.places hgs (blk_ne_row inv.st.blk inv.st.places (by decide)), fun i p hp => ?_, inv.st.low⟩, inv.ok, one, hk2⟩, Below.setCell inv.below inv.st.low _⟩
      · have := inv.st.blk.set_ 5 (.int .i64 (s.1.length : Nat))
        rw [HN.out]
        exact this
      · obtain ⟨u, e, hu⟩ := inv.st.rows i p hp
        exact ⟨u, e, own_kept hu hgs (blk_ne_row inv.st.blk hu (by decide))⟩
end Go.Proofs.YthhjbmlkncdigaaGreatDoor
end
