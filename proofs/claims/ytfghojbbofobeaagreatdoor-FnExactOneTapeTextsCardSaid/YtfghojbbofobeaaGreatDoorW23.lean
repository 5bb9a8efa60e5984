/- Contracts of both machines with one tape for several: the program's and the reference's. The machine is valid.
Contract of the cells of one tape of a configuration of the machine with one tape for several.
Contracts of the library's search of a marked cell. -/
import Derived.Test.YtfghojbbofobeaaGreatDoorW22
import Derived.Test.YtfghojbbofobeaaGreatDoorW10
import Derived.Test.YtfghojbbofobeaaGreatDoorW17
import Derived.Test.YtfghojbbofobeaaGreatDoorW08
section
set_option linter.unusedSimpArgs false
set_option linter.unusedVariables false
namespace Go.Proofs.YtfghojbbofobeaaGreatDoor
open Go Go.RowKit Go.Proofs Go.Maps
set_option maxHeartbeats 400000
def MakeS (w : World) (m : MultiD) (b : Nat) (e : Ending) (w' : World) : Prop :=
  ((weaveB m = none ∧ ∃ bk, e = .returned (.tuple #[.pointer (some ⟨bk, 0, none⟩), .bool false])) ∨
    ∃ s bk rv pv vs, weaveB m = some s ∧ e = .returned (.tuple #[.pointer (some ⟨bk, 0, none⟩), .bool true]) ∧ MkM w.heap.size w' bk b m (2 * m.sy) s.1.length s.2 s.1 rv pv vs ∧ (∀ p ∈ s.1, WOk m p) ∧ 1 ≤ s.1.length ∧ s.1.length ≤ 1000) ∧ Ext w w'
set_option maxHeartbeats 1000000 in
set_option maxRecDepth 20000 in
theorem l13MakeSeveral_c (b : Nat) (m : MultiD) (w : World) (hM : MulAt w b m) (hm : multiOk m = true) :
    Calls Tryz.prog 21 #[.pointer (some ⟨b, 0, none⟩)] w (MakeS w m b) := by
  obtain ⟨⟨tp1, tp2⟩, ⟨y1, y2⟩, _⟩ := multi_all hm
  obtain ⟨W, hW⟩ : ∃ W, W = w.alloc (.cells #[.pointer none, .pointer (some ⟨b, 0, none⟩), .int .i64 2, .slice none 0 0, .int .i64 0, .int .i64 0, .slice none 0 0] 63) := ⟨_, rfl⟩
  have hXW : Ext w W := by rw [hW]; exact Ext.alloc _ _
  have bK : Blk W w.heap.size 63 #[.pointer none, .pointer (some ⟨b, 0, none⟩), .int .i64 2, .slice none 0 0, .int .i64 0, .int .i64 0, .slice none 0 0] := by rw [hW]; exact Blk.new _ _ _ _ rfl
  have HM := Lib.hid hM
  obtain ⟨A, cA, hb, _⟩ := hM
  have a1 : W.cell? ⟨b, 1, none⟩ = some (.int .i64 m.sy) := (hb.ext hXW).cell 1
  have hwm : IntKind.i64.wrap (2 * m.sy) = 2 * m.sy := IntWalk.i64_in _ (by omega)
  clear hb
  go_enter Tryz.func21, Tryz.ntmps21
  go_upto_region 2 with fail
  try rw [← hW]
  clear hW
  have zD := Ext.drew W
  have e1 := zD.cell a1
  have hM1 := HM.out.ext (hXW.trans zD)
  refine wp_region_ordT 8 (readsT [0, 1, 2, 3, 4, 5, 6] (.stir 7 .done)) (by kernel_rfl) (by kernel_rfl) (fun _ _ _ _ _ h => h) ?_
  simp only [readsT]
  iterate 7 (refine wpOrdT_read (v := ?_) (by rfl) (Or.inl ⟨by rfl, fun x hx => ?_⟩) ?_; rotate_left; (· have u1 := hx.cell e1; go_simp; try with_reducible rfl); try simp only [Act.put, List.setIfInBounds_toArray, List.set_cons_zero, List.set_cons_succ])
  refine wpOrdT_stir (by rfl) (fun K hK => ?_)
  go_simp
  go_at_call 25
  refine (lookS_c b m 0 _ hM1 hm).mono ?_
  rintro e w1 ⟨u, rfl, ou, hx1⟩
  refine hK _ _ hx1 ?_
  clear hK K
  try simp only [Act.put, List.setIfInBounds_toArray, List.set_cons_zero, List.set_cons_succ]
  have ou0 : OwnInts w.heap.size w1 u (encM m mp0) := ownsRow_base ou (hXW.trans zD).size
  obtain ⟨L0, hL0⟩ : ∃ L0, L0 = (encM m mp0).length := ⟨_, rfl⟩
  obtain ⟨gu, cu, rfl⟩ : ∃ gu cu, u = .slice (some ⟨gu, 0, none⟩) L0 cu := by
    obtain ⟨Au, cu, rfl, _, _⟩ := id ou0.ints.form
    obtain ⟨gu, rfl, _, _⟩ := own_at ou0 (by simp [encM, mp0])
    exact ⟨gu, cu, by rw [hL0]⟩
  have BS := buildS_c w w1 w.heap.size b m gu L0 cu HM.out ((hXW.trans zD).trans hx1) (Nat.le_refl _) ((bK.ext zD).ext hx1) ou0 hL0 hm
  have HL0 := Lib.hid hL0
  clear hL0 ou ou0
  refine wpOrdT_done ?_
  try simp only [List.drop_succ_cons, List.drop_zero]
  clear e1 a1 hM1 bK hXW zD hx1
  go_wp2_with fail
  refine BS.mono ?_
  rintro e w2 ⟨hres, hx2⟩
  clear BS
  rcases hres with ⟨hn, rfl⟩ | ⟨s, rv1, pv1, vs1, hs, rfl, hst, hok, l1, l2⟩
  · go_wp2_with fail
    go_ret2
    exact ⟨.inl ⟨hn, _, rfl⟩, hx2⟩
  · go_wp2_with fail
    go_ret2
    exact ⟨.inr ⟨s, _, rv1, pv1, vs1, hs, rfl, hst, hok, l1, l2⟩, hx2⟩
def WeaveRes (w : World) (m : MultiD) (e : Ending) (w' : World) : Prop :=
  ((weaveB m = none ∧ e = .returned (.tuple #[.pointer none, .bool false])) ∨
    ∃ s bx bm rv pv, weaveB m = some s ∧ e = .returned (.tuple #[.pointer (some ⟨bx, 0, none⟩), .bool true]) ∧ PlM w.heap.size w' bx (2 * m.sy) s.1.length s.2 s.1 rv pv bm ∧ (∀ p ∈ s.1, WOk m p) ∧ 1 ≤ s.1.length ∧ s.1.length ≤ 1000) ∧ Ext w w'
set_option maxHeartbeats 1000000 in
set_option maxRecDepth 20000 in
theorem oneTape_c (mv : Value) (m : MultiD) (w : World) (hM : Mult w mv m) (hm : multiOk m = true) :
    Calls Tryz.prog 32 #[mv] w (WeaveRes w m) := by
  obtain ⟨⟨tp1, tp2⟩, ⟨y1, y2⟩, _⟩ := multi_all hm
  obtain ⟨rv, rfl, hR⟩ := hM
  obtain ⟨A, cA, rfl, _, _⟩ := hR.form
  obtain ⟨g, hg⟩ : ∃ g, w.heap.size = g := ⟨_, rfl⟩
  obtain ⟨W, hW⟩ : ∃ W, W = w.alloc (.cells #[.int .i64 m.tp, .int .i64 m.sy, .int .i64 m.st, .slice A m.rules.length cA] 33) := ⟨_, rfl⟩
  have hXW : Ext w W := by rw [hW]; exact Ext.alloc _ _
  have bM : Blk W g 33 #[.int .i64 m.tp, .int .i64 m.sy, .int .i64 m.st, .slice A m.rules.length cA] := by rw [hW]; exact Blk.new _ _ _ _ hg
  have a0 : W.cell? ⟨g, 0, none⟩ = some (.int .i64 m.tp) := bM.cell 0
  have a1 : W.cell? ⟨g, 1, none⟩ = some (.int .i64 m.sy) := bM.cell 1
  have a2 : W.cell? ⟨g, 2, none⟩ = some (.int .i64 m.st) := bM.cell 2
  have a3 : W.cell? ⟨g, 3, none⟩ = some (.slice A m.rules.length cA) := bM.cell 3
  have hwm : IntKind.i64.wrap (2 * m.sy) = 2 * m.sy := IntWalk.i64_in _ (by omega)
  go_enter Tryz.func32, Tryz.ntmps32
  go_upto_region 1 with fail
  try rw [← hW]
  try rw [hg]
  clear hW
  have zD := Ext.drew W
  have e0 := zD.cell a0
  have e1 := zD.cell a1
  have e2 := zD.cell a2
  have e3 := zD.cell a3
  have MR := multiRules_c (.agg #[.int .i64 m.tp, .int .i64 m.sy, .int .i64 m.st, .slice A m.rules.length cA]) m W.drew ⟨_, rfl, hR.ext (hXW.trans zD)⟩ hm
  refine wp_region_ordT 3 (readsT [0, 1] (.stir 2 .done)) (by kernel_rfl) (by kernel_rfl) (fun _ _ _ _ _ h => h) ?_
  simp only [readsT]
  iterate 2 (refine wpOrdT_read (v := ?_) (by rfl) (Or.inl ⟨by rfl, fun x hx => ?_⟩) ?_; rotate_left; (· have u0 := hx.cell e0; have u1 := hx.cell e1; have u2 := hx.cell e2; have u3 := hx.cell e3; go_simp; try with_reducible rfl); try simp only [Act.put, List.setIfInBounds_toArray, List.set_cons_zero, List.set_cons_succ])
  refine wpOrdT_stir (by rfl) (fun K hK => ?_)
  go_simp
  go_at_call 61
  refine MR.mono ?_
  rintro e w1 ⟨bm, rfl, tb, hbm, hx1⟩
  refine hK _ _ hx1 ?_
  clear hK K MR
  try simp only [Act.put, List.setIfInBounds_toArray, List.set_cons_zero, List.set_cons_succ]
  refine wpOrdT_done ?_
  try simp only [List.drop_succ_cons, List.drop_zero]
  have hX1 := hXW.trans (zD.trans hx1)
  obtain ⟨gw, hgw⟩ : ∃ gw, w1.heap.size = gw := ⟨_, rfl⟩
  obtain ⟨V, hV⟩ : ∃ V, V = w1.alloc (.cells #[.int .i64 m.tp, .int .i64 m.sy, .int .i64 m.st, .slice A m.rules.length cA, .map (some bm)] 122) := ⟨_, rfl⟩
  have hXV : Ext w1 V := by rw [hV]; exact Ext.alloc _ _
  have hWv : Weav V gw m := ⟨A, cA, bm, by rw [hV]; exact Blk.new _ _ _ _ hgw, hR.ext (hX1.trans hXV), tb.ext hXV⟩
  have hXv := hX1.trans hXV
  have a1V : V.cell? ⟨g, 1, none⟩ = some (.int .i64 m.sy) := (zD.trans (hx1.trans hXV)).cell a1
  clear e0 e1 e2 e3 a0 a1 a2 a3 tb bM hR hx1 zD hX1 hXV hXW
  go_upto_region 2 with fail
  try rw [← hV]
  try rw [hgw]
  clear hV hgw
  have zD := Ext.drew V
  have e1 := zD.cell a1V
  have fin : ∀ (Z : World) , Ext V.drew Z → Calls Tryz.prog 62 #[.int .i64 (2 * m.sy), mp0.v, .func (.func 63) #[.pointer (some ⟨gw, 0, none⟩)] #[]] Z (fun e w' => BuildM Z m e w' ∧ Ext V.drew Z) := fun Z hZ => (buildW_c Z gw m (hWv.ext (zD.trans hZ)) hm).mono fun e w' hh => ⟨hh, hZ⟩
  simp only [mp0, MP.v] at fin
  refine wp_region_ordT 9 (readsT [0, 1, 2, 4] (.fork 3 (.stir 5 (.stir 6 (readsT [7, 8] .done))) 5 (.stir 3 (.stir 6 (readsT [7, 8] .done))))) (by kernel_rfl) (by kernel_rfl) (fun _ _ _ _ _ h => h) ?_
  simp only [readsT]
  iterate 4 (refine wpOrdT_read (v := ?_) (by rfl) (Or.inl ⟨by rfl, fun x hx => ?_⟩) ?_; rotate_left; (· have u1 := hx.cell e1; go_simp; try with_reducible rfl); try simp only [Act.put, List.setIfInBounds_toArray, List.set_cons_zero, List.set_cons_succ])
  refine wpOrdT_fork (by rfl) (by rfl) (fun K hK => ?_) (fun K hK => ?_)
  · go_simp
    go_at_call 36
    refine (look_c 0 _).mono ?_
    rintro e w3 ⟨rfl, hx3⟩
    refine hK _ _ hx3 ?_
    clear hK K
    try simp only [Act.put, List.setIfInBounds_toArray, List.set_cons_zero, List.set_cons_succ]
    simp only [lookP, MP.v]
    refine wpOrdT_stir (by rfl) (fun K hK => ?_)
    go_simp
    refine hK _ _ (Ext.refl _) ?_
    clear hK K
    try simp only [Act.put, List.setIfInBounds_toArray, List.set_cons_zero, List.set_cons_succ]
    refine wpOrdT_stir (by rfl) (fun K hK => ?_)
    go_simp
    go_at_call 62
    refine (fin w3 hx3).mono ?_
    rintro e w4 ⟨⟨hres, hx4⟩, _⟩
    have hX4 : Ext w w4 := hXv.trans (zD.trans (hx3.trans hx4))
    have hlow : w.heap.size ≤ w3.heap.size := (hXv.trans (zD.trans hx3)).size
    rcases hres with ⟨hn, rfl⟩ | ⟨s, bx, bm', rv1, pv1, hs, rfl, hst, hok, l1, l2⟩
    · refine hK _ _ hx4 ?_
      clear hK K fin
      try simp only [Act.put, List.setIfInBounds_toArray, List.set_cons_zero, List.set_cons_succ]
      iterate 2 (refine wpOrdT_read (v := ?_) (by rfl) (Or.inl ⟨by rfl, fun x hx => ?_⟩) ?_; rotate_left; (· go_simp; try with_reducible rfl); try simp only [Act.put, List.setIfInBounds_toArray, List.set_cons_zero, List.set_cons_succ])
      refine wpOrdT_done ?_
      try simp only [List.drop_succ_cons, List.drop_zero]
      go_wp2_with fail
      go_ret2
      exact ⟨.inl ⟨hn, rfl⟩, hX4⟩
    · refine hK _ _ hx4 ?_
      clear hK K fin
      try simp only [Act.put, List.setIfInBounds_toArray, List.set_cons_zero, List.set_cons_succ]
      have hst' : PlM w.heap.size w4 bx (2 * m.sy) s.1.length s.2 s.1 rv1 pv1 bm' :=
        ⟨hst.blk, ownsRow_base hst.rules hlow, ownsRow_base hst.places hlow, hst.tbl, Nat.le_trans hlow hst.lowX, Nat.le_trans hlow hst.lowM⟩
      iterate 2 (refine wpOrdT_read (v := ?_) (by rfl) (Or.inl ⟨by rfl, fun x hx => ?_⟩) ?_; rotate_left; (· go_simp; try with_reducible rfl); try simp only [Act.put, List.setIfInBounds_toArray, List.set_cons_zero, List.set_cons_succ])
      refine wpOrdT_done ?_
      try simp only [List.drop_succ_cons, List.drop_zero]
      go_wp2_with fail
      go_ret2
      exact ⟨.inr ⟨s, _, bm', rv1, pv1, hs, rfl, hst', hok, l1, l2⟩, hX4⟩
  · go_simp
    refine hK _ _ (Ext.refl _) ?_
    clear hK K
    try simp only [Act.put, List.setIfInBounds_toArray, List.set_cons_zero, List.set_cons_succ]
    refine wpOrdT_stir (by rfl) (fun K hK => ?_)
    go_simp
    go_at_call 36
    refine (look_c 0 _).mono ?_
    rintro e w3 ⟨rfl, hx3⟩
    refine hK _ _ hx3 ?_
    clear hK K
    try simp only [Act.put, List.setIfInBounds_toArray, List.set_cons_zero, List.set_cons_succ]
    simp only [lookP, MP.v]
    refine wpOrdT_stir (by rfl) (fun K hK => ?_)
    go_simp
    go_at_call 62
    refine (fin w3 hx3).mono ?_
    rintro e w4 ⟨⟨hres, hx4⟩, _⟩
    have hX4 : Ext w w4 := hXv.trans (zD.trans (hx3.trans hx4))
    have hlow : w.heap.size ≤ w3.heap.size := (hXv.trans (zD.trans hx3)).size
    rcases hres with ⟨hn, rfl⟩ | ⟨s, bx, bm', rv1, pv1, hs, rfl, hst, hok, l1, l2⟩
    · refine hK _ _ hx4 ?_
      clear hK K fin
      try simp only [Act.put, List.setIfInBounds_toArray, List.set_cons_zero, List.set_cons_succ]
      iterate 2 (refine wpOrdT_read (v := ?_) (by rfl) (Or.inl ⟨by rfl, fun x hx => ?_⟩) ?_; rotate_left; (· go_simp; try with_reducible rfl); try simp only [Act.put, List.setIfInBounds_toArray, List.set_cons_zero, List.set_cons_succ])
      refine wpOrdT_done ?_
      try simp only [List.drop_succ_cons, List.drop_zero]
      go_wp2_with fail
      go_ret2
      exact ⟨.inl ⟨hn, rfl⟩, hX4⟩
    · refine hK _ _ hx4 ?_
      clear hK K fin
      try simp only [Act.put, List.setIfInBounds_toArray, List.set_cons_zero, List.set_cons_succ]
      have hst' : PlM w.heap.size w4 bx (2 * m.sy) s.1.length s.2 s.1 rv1 pv1 bm' :=
        ⟨hst.blk, ownsRow_base hst.rules hlow, ownsRow_base hst.places hlow, hst.tbl, Nat.le_trans hlow hst.lowX, Nat.le_trans hlow hst.lowM⟩
      iterate 2 (refine wpOrdT_read (v := ?_) (by rfl) (Or.inl ⟨by rfl, fun x hx => ?_⟩) ?_; rotate_left; (· go_simp; try with_reducible rfl); try simp only [Act.put, List.setIfInBounds_toArray, List.set_cons_zero, List.set_cons_succ])
      refine wpOrdT_done ?_
      try simp only [List.drop_succ_cons, List.drop_zero]
      go_wp2_with fail
      go_ret2
      exact ⟨.inr ⟨s, _, bm', rv1, pv1, hs, rfl, hst', hok, l1, l2⟩, hX4⟩
end Go.Proofs.YtfghojbbofobeaaGreatDoor
end
section
set_option linter.unusedSimpArgs false
set_option linter.unusedVariables false
namespace Go.Proofs.YtfghojbbofobeaaGreatDoor
open Go Go.RowKit Go.Proofs Go.Maps
set_option maxHeartbeats 400000
theorem floor_eq {a b : Int} (h : -2 ≤ a) (hb : b = 2 ∨ b = 3) : (a.tmod b + b).tmod b = a % b := by
  by_cases h0 : 0 ≤ a
  · rw [Int.tmod_eq_emod_of_nonneg h0]
    have h1 := Int.emod_nonneg a (show b ≠ 0 by omega)
    rw [Int.tmod_eq_emod_of_nonneg (by omega), Int.add_emod_right, Int.emod_emod]
  · have ha : a = -1 ∨ a = -2 := by omega
    rcases ha with rfl | rfl <;> rcases hb with rfl | rfl <;> decide
theorem floorMod_c (a b : Int) (w : World) (h : -2 ≤ a) (h1 : a ≤ 1000000) (hb : b = 2 ∨ b = 3) :
    Calls Tryz.prog 111 #[.int .i64 a, .int .i64 b] w fun e w' => e = .returned (.int .i64 (a % b)) ∧ w = w' := by
  have hf := floor_eq h hb
  have hb0 : ¬ b = 0 := by omega
  obtain ⟨r, hr⟩ : ∃ r, a.tmod b = r := ⟨_, rfl⟩
  rw [hr] at hf
  have hrb : -3 ≤ r ∧ r ≤ 1000000 := by
    rw [← hr]
    by_cases h0 : 0 ≤ a
    · rw [Int.tmod_eq_emod_of_nonneg h0]
      have h2 := Int.emod_nonneg a (show b ≠ 0 by omega)
      have h3 := Int.emod_lt_of_pos a (show 0 < b by omega)
      omega
    · have ha : a = -1 ∨ a = -2 := by omega
      rcases ha with rfl | rfl <;> rcases hb with rfl | rfl <;> decide
  have hw : IntKind.i64.wrap (r + b) = r + b := IntWalk.i64_in _ (by omega)
  go_enter Tryz.func111, Tryz.ntmps111
  go_wp2
  go_ret
  exact ⟨rfl, rfl⟩
theorem markM_c (v : Int) (b : Nat) (sy : Int) (w : World) (h : w.cell? ⟨b, 1, none⟩ = some (.int .i64 sy)) :
    Calls Tryz.prog 70 #[.int .i64 v, .pointer (some ⟨b, 0, none⟩)] w fun e w' => e = .returned (.bool (markB sy v)) ∧ w = w' := by
  go_enter Tryz.func70, Tryz.ntmps70
  go_wp2
  go_ret
  exact ⟨rfl, rfl⟩
theorem lineT_len (T f : Nat) (xs : List Int) (n : Nat) : (lineT T f xs n).length ≤ n := by
  unfold lineT ixT
  rw [List.length_map]
  exact Nat.le_trans (List.length_filter_le _ _) (by simp)
theorem lineT_next {T f k n : Nat} {xs : List Int} (hT : T = 2 ∨ T = 3) (hk : k % T = f) (h1 : k < n) (h2 : n ≤ k + T) : lineT T f xs n = lineT T f xs k ++ [xs.getD k 0] := by
  unfold lineT
  rw [ixT_next hT hk h1 h2, List.map_append]
  rfl
set_option maxRecDepth 20000 in
set_option maxHeartbeats 4000000 in
theorem tapeCells_c (m : MultiD) (rvm : Value) (c : ConfD) (lv qv : Value) (t0 j : Int) (w : World) (hm : multiOk m = true) (hl : Ints w lv c.l) (hr : Ints w qv c.r) (fl : Flat lv) (fr : Flat qv) (hL : c.l.length ≤ 200) (hR : c.r.length ≤ 200)
    (ht0 : 0 ≤ t0) (ht1 : t0 < m.tp) (hj0 : 0 ≤ j) (hj1 : j < m.tp) :
    Calls Tryz.prog 71 #[.agg #[.int .i64 m.tp, .int .i64 m.sy, .int .i64 m.st, rvm], .agg #[.int .i64 c.q, lv, qv], .int .i64 t0, .int .i64 j] w fun e w' => ∃ u, e = .returned u ∧ OwnInts w.heap.size w' u (lineC m c t0 j) ∧ Ext w w' := by
  obtain ⟨i0, hi, hz0, hz1, hz2⟩ := info_parts intInfo
  obtain ⟨⟨tp1, tp2⟩, _⟩ := multi_all hm
  obtain ⟨Al, cl, rfl, _, _⟩ := hl.form
  obtain ⟨Ar, cr, rfl, _, _⟩ := hr.form
  obtain ⟨g, hg⟩ : ∃ g, w.heap.size = g := ⟨_, rfl⟩
  obtain ⟨W, hW⟩ : ∃ W, W = (w.alloc (.cells #[.int .i64 m.tp, .int .i64 m.sy, .int .i64 m.st, rvm] 33)).alloc (.cells #[.int .i64 c.q, .slice Al c.l.length cl, .slice Ar c.r.length cr] 52) := ⟨_, rfl⟩
  have hX : Ext w W := by rw [hW]; exact (Ext.alloc _ _).trans (Ext.alloc _ _)
  have bM : Blk W g 33 #[.int .i64 m.tp, .int .i64 m.sy, .int .i64 m.st, rvm] := by rw [hW]; exact (Blk.new _ _ _ _ hg).alloc _
  have bC : Blk W (g + 1) 52 #[.int .i64 c.q, .slice Al c.l.length cl, .slice Ar c.r.length cr] := by rw [hW]; exact Blk.new _ _ _ _ (by simp [hg])
  have c1 : W.cell? ⟨g + 1, 1, none⟩ = some (.slice Al c.l.length cl) := bC.cell 1
  have c2 : W.cell? ⟨g + 1, 2, none⟩ = some (.slice Ar c.r.length cr) := bC.cell 2
  have zD := Ext.drew W
  have RV := reversed_c (.slice Al c.l.length cl) c.l W.drew (hl.ext (hX.trans zD)) fl (by omega)
  have hlr : c.l.reverse.length = c.l.length := by simp
  go_enter Tryz.func71, Tryz.ntmps71
  go_upto_region 1 with fail
  try rw [← hW]
  try rw [hg]
  clear hW
  have e1 := zD.cell c1
  have e2 := zD.cell c2
  refine wp_region_ordT 9 (readsT [0, 1, 3, 4, 7, 8] (.stir 2 (.stir 5 (.stir 6 .done)))) (by kernel_rfl) (by kernel_rfl) (fun _ _ _ _ _ h => h) ?_
  simp only [readsT]
  iterate 6 (refine wpOrdT_read (v := ?_) (by rfl) (Or.inl ⟨by rfl, fun x hx => ?_⟩) ?_; rotate_left; (· have u1 := hx.cell e1; have u2 := hx.cell e2; go_simp; try with_reducible rfl); try simp only [Act.put, List.setIfInBounds_toArray, List.set_cons_zero, List.set_cons_succ])
  refine wpOrdT_stir (by rfl) (fun K hK => ?_)
  go_simp
  go_at_call 74
  refine RV.mono ?_
  rintro e w5 ⟨u5, rfl, ho5, hx5⟩
  refine hK _ _ hx5 ?_
  clear hK K RV
  try simp only [Act.put, List.setIfInBounds_toArray, List.set_cons_zero, List.set_cons_succ]
  have hf5 := ho5.flat
  obtain ⟨A5, c5, rfl, _, _⟩ := ho5.ints.form
  have JN := joinedA_c A5 Ar c5 cr c.l.reverse c.r w5 ho5.ints (hr.ext (hX.trans (zD.trans hx5))) hf5 fr (by omega)
  have eA := Ext.alloc w5 (.cells #[.slice A5 c.l.reverse.length c5, .slice Ar c.r.length cr] 44)
  refine wpOrdT_stir (by rfl) (fun K hK => ?_)
  go_simp
  rw [hlr] at eA
  refine hK _ _ eA ?_
  clear hK K
  try simp only [Act.put, List.setIfInBounds_toArray, List.set_cons_zero, List.set_cons_succ]
  rw [hlr] at JN
  refine wpOrdT_stir (by rfl) (fun K hK => ?_)
  go_simp
  go_at_call 110
  refine JN.mono ?_
  rintro e w7 ⟨u7, rfl, ho7, hx7⟩
  refine hK _ _ hx7 ?_
  clear hK K JN
  try simp only [Act.put, List.setIfInBounds_toArray, List.set_cons_zero, List.set_cons_succ]
  refine wpOrdT_done ?_
  try simp only [List.drop_succ_cons, List.drop_zero]
  have hX7 := hX.trans (zD.trans (hx5.trans (eA.trans hx7)))
  have hE7 := zD.trans (hx5.trans (eA.trans hx7))
  have i7 : Ints w7 u7 (cellsC c) := ho7.ints
  have hlen : (cellsC c).length = c.l.length + c.r.length := by simp [cellsC]
  obtain ⟨A7, c7, rfl, _, _⟩ := i7.form
  have a0 : w7.cell? ⟨g, 0, none⟩ = some (.int .i64 m.tp) := (bM.ext hE7).cell 0
  have SZ := sizeInt_c (.slice Al c.l.length cl) c.l w7 (hl.ext hX7)
  clear e1 e2 c1 c2 bC ho5 hf5 hx5 eA hx7 ho7 hE7 zD
  go_wp2_with fail
  refine SZ.mono ?_
  rintro e w' ⟨rfl, rfl⟩
  clear SZ
  have hT : m.tp = 2 ∨ m.tp = 3 := by omega
  obtain ⟨n, hn⟩ : ∃ n, c.l.length = n := ⟨_, rfl⟩
  have hws : IntKind.i64.wrap (j - t0) = j - t0 := IntWalk.i64_in _ (by omega)
  have hwa : IntKind.i64.wrap (j - t0 + (n : Int)) = j - t0 + (n : Int) := IntWalk.i64_in _ (by omega)
  have FM := floorMod_c (j - t0 + (n : Int)) m.tp w7 (by omega) (by omega) hT
  obtain ⟨F, hF⟩ : ∃ F, frstC m.tp t0 j n = F := ⟨_, rfl⟩
  have hFi : (j - t0 + (n : Int)) % m.tp = (F : Int) := by
    rw [← hF]
    unfold frstC
    have := Int.emod_nonneg (j - t0 + (n : Int)) (show m.tp ≠ 0 by omega)
    omega
  obtain ⟨T, hTT⟩ : ∃ T : Nat, (T : Int) = m.tp := ⟨m.tp.toNat, by omega⟩
  have hTn : m.tp.toNat = T := by omega
  have hFlt : F < T := by
    rw [← hF, ← hTn]
    exact frstC_lt tp1 n
  have HLI : Hid (lineC m c t0 j = lineT T F (cellsC c) (cellsC c).length) := Lib.hid (by unfold lineC; rw [hTn, hn, hF])
  rw [hFi] at FM
  rw [hn]
  rw [← hTT] at a0 FM
  have hT2 : T = 2 ∨ T = 3 := by omega
  have hN4 : (cellsC c).length ≤ 400 := by omega
  have HX7 := Lib.hid hX7
  have HI7 := Lib.hid i7
  clear hF hFi hn hlr hlen hTT hTn hL hR
  generalize cellsC c = xs at *
  obtain ⟨N, hN⟩ : ∃ N, xs.length = N := ⟨_, rfl⟩
  have HN := Lib.hid hN
  rw [hN] at hN4 ⊢
  go_wp2_with fail
  refine FM.mono ?_
  rintro e w' ⟨rfl, rfl⟩
  clear FM
  obtain ⟨V, hV⟩ : ∃ V, V = w7.alloc (.cells #[] 2) := ⟨_, rfl⟩
  have hXV : Ext w7 V := by rw [hV]; exact Ext.alloc _ _
  have hown0 : V.ownsRow w7.heap.size 2 1 (.slice (some ⟨w7.heap.size, 0, none⟩) 0 0) (lineT T F xs (min F N)).length (ivs (lineT T F xs (min F N))) := by
    have e0 : lineT T F xs (min F N) = [] := by unfold lineT; rw [ixT_first hT2 (by omega) hFlt]; rfl
    rw [e0, hV]
    exact World.ownsRow_made (base := w7.heap.size) (e := 2) (size := 1) w7 #[] 0 (by simp) (by unfold maxLen; omega) (by simp [ivs])
  have HA0 := Lib.hid a0
  have a0V := hXV.cell a0
  clear a0
  go_wp2_with fail
  try rw [← hV]
  clear hV
  go_loopw [12, 13] (fun l i wr => ∃ k : Nat, i = .int .i64 (k : Int) ∧ k % T = F ∧ k < N + T ∧ Ext w7 wr ∧ wr.ownsRow w7.heap.size 2 1 l (lineT T F xs (min k N)).length (ivs (lineT T F xs (min k N)))) (fun _ i _ => N + T - (intOf i).toNat)
  case atStart => exact ⟨F, rfl, Nat.mod_eq_of_lt hFlt, by omega, hXV, hown0⟩
  case round =>
    obtain ⟨k, rfl, hkF, hkN, hE, ho⟩ := hrel
    have ik := HI7.out.ext hE
    have a0 : wr.cell? ⟨g, 0, none⟩ = some (.int .i64 (T : Int)) := hE.cell HA0.out
    clear hown0 hXV a0V
    have SZ := sizeInt_c (.slice A7 N c7) xs wr (by rw [← HN.out]; exact ik)
    rw [HN.out] at SZ
    by_cases hlt : k < N
    · have hmin : min k N = k := by omega
      rw [hmin] at ho
      obtain ⟨Al', cl', rfl, h3, h3', _⟩ := (ownsRow_row ho).form
      have hklt : k < xs.length := by rw [HN.out]; exact hlt
      obtain ⟨b, off, rfl, hc⟩ := ik.at hklt
      have ck := hc k hklt
      have hki : (k : Int) < (N : Int) := by omega
      have hgd : xs.getD k 0 = xs[k] := by rw [List.getD_eq_getElem?_getD, List.getElem?_eq_getElem hklt]; rfl
      have hnext : lineT T F xs (min (k + T) N) = lineT T F xs k ++ [xs[k]] := by rw [lineT_next hT2 hkF (by omega) (by omega), hgd]
      obtain ⟨y, hy⟩ : ∃ y, xs[k] = y := ⟨_, rfl⟩
      rw [hy] at ck hnext
      have hll := lineT_len T F xs k
      have HTK : Hid (ivs (lineT T F xs (min (k + T) N)) = ivs (lineT T F xs k) ++ [.int .i64 y]) := Lib.hid (by rw [hnext]; simp [ivs])
      have HTL : Hid ((lineT T F xs (min (k + T) N)).length = (lineT T F xs k).length + 1) := Lib.hid (by rw [hnext]; simp)
      have hwk : IntKind.i64.wrap ((k : Int) + (T : Int)) = (k : Int) + (T : Int) := IntWalk.i64_in _ (by omega)
      have hsz := hE.size
      have HA := Lib.hid a0
      clear hnext hy hc hgd ik hmin
      go_wp2_with fail
      refine SZ.mono ?_
      rintro e w' ⟨rfl, rfl⟩
      clear SZ
      go_wp2_with (at_builtin; refine wpList_append_own _ rfl _ _ 44 rfl w7.heap.size 2 i0 (.int .i64 0) 1 8 Tryz.underlying44 hi hz0 hz1 hz2 rfl (by decide) _ _ _ rfl (ho.alloc _) ⟨wr.heap.size, 0, none⟩ 1 1 [.int .i64 y] rfl rfl ?c1 ?c2 ?c3 ?c4 ?c5 ?_)
      case c1 => exact cell_one_new _ _ _
      case c2 => first | rfl | (intro u hu; simp at hu; subst hu; rfl)
      case c3 => first | omega | (unfold maxLen; omega)
      case c4 => omega
      case c5 => first | omega | (simp; omega)
      intro v' w3 hown' hgrow _
      have hX3 : Ext w7 w3 := hE.grown (grownBy_trans (World.grownBy_alloc _ _ _) hgrow) (fun b hb => (ho.lt b hb).1)
      have R : w3.ownsRow w7.heap.size 2 1 v' (lineT T F xs (min (k + T) N)).length (ivs (lineT T F xs (min (k + T) N))) := by rw [HTK.out, HTL.out]; exact hown'
      have a03 : w3.cell? ⟨g, 0, none⟩ = some (.int .i64 (T : Int)) := hX3.cell HA0.out
      clear hown' hgrow ho a0 HA
      go_wp2_with fail
      go_roundw
      case rel => exact ⟨k + T, by simp, by rw [Nat.add_mod_right]; exact hkF, by omega, hX3, R⟩
      case measure =>
        have hT0 : 0 < T := by omega
        simp [intOf]
        omega
    · have hmin : min k N = N := by omega
      rw [hmin] at ho
      obtain ⟨Al', cl', hv, h3, h3', _⟩ := (ownsRow_row ho).form
      subst hv
      have hge : ¬ (k : Int) < (N : Int) := by omega
      have HO : Hid (OwnInts w.heap.size wr (.slice Al' (lineT T F xs N).length cl') (lineC m c t0 j)) := Lib.hid (by
        rw [HLI.out, HN.out]
        exact ownsRow_base ho HX7.out.size)
      clear ho ik
      go_wp2_with fail
      refine SZ.mono ?_
      rintro e w' ⟨rfl, rfl⟩
      clear SZ
      go_wp2_with fail
      go_ret
      exact ⟨_, rfl, HO.out, HX7.out.trans hE⟩
end Go.Proofs.YtfghojbbofobeaaGreatDoor
end
section
set_option linter.unusedSimpArgs false
set_option linter.unusedVariables false
namespace Go.Proofs.YtfghojbbofobeaaGreatDoor
open Go Go.RowKit Go.Proofs Go.Maps
set_option maxHeartbeats 400000
/-- The index of the first marked cell, or -1. -/
def ixM (sy : Int) (zs : List Int) : Int := match zs.findIdx? (markB sy) with
  | some k => (k : Int)
  | none => -1
theorem ixM_hit {sy : Int} {zs : List Int} {k : Nat} (hk : k < zs.length) (h : markB sy zs[k] = true) (hn : ∀ i, i < k → ∀ h : i < zs.length, markB sy zs[i] = false) : ixM sy zs = (k : Int) := by
  have : zs.findIdx? (markB sy) = some k := List.findIdx?_eq_some_iff_getElem.2 ⟨hk, h, fun j hj => by rw [hn j hj (by omega)]; simp⟩
  unfold ixM
  rw [this]
theorem ixM_miss {sy : Int} {zs : List Int} (hn : ∀ i, ∀ h : i < zs.length, markB sy zs[i] = false) : ixM sy zs = -1 := by
  have : zs.findIdx? (markB sy) = none := List.findIdx?_eq_none_iff.2 fun x hx => by
    obtain ⟨i, hi, rfl⟩ := List.getElem_of_mem hx
    exact hn i hi
  unfold ixM
  rw [this]
set_option maxRecDepth 20000 in
theorem idxM_c (v : Value) (zs : List Int) (b : Nat) (sy : Int) (w : World) (h : Ints w v zs) (hb : w.cell? ⟨b, 1, none⟩ = some (.int .i64 sy)) (hn : zs.length ≤ 1000) :
    Calls Tryz.prog 72 #[v, .func (.func 70) #[] #[.pointer (some ⟨b, 0, none⟩)]] w fun e w' => e = .returned (.int .i64 (ixM sy zs)) ∧ w = w' := by
  obtain ⟨A, c, rfl, _, _⟩ := h.form
  go_enter Tryz.func72, Tryz.ntmps72
  go_wp2_with fail
  go_loopw [5, 8] (fun x i wr => ∃ k : Nat, k ≤ zs.length ∧ i = .int .i64 (k : Int) ∧ w = wr ∧ Hid (∀ i, i < k → ∀ h : i < zs.length, markB sy zs[i] = false)) (fun _ i _ => zs.length - (intOf i).toNat)
  case atStart => exact ⟨0, Nat.zero_le _, rfl, rfl, Lib.hid (fun i hi => by omega)⟩
  case round =>
    obtain ⟨k, hk, rfl, rfl, hno⟩ := hrel
    by_cases hlt : k < zs.length
    · obtain ⟨b', off, rfl, hc⟩ := h.at hlt
      have ck := hc k hlt
      have hki : (k : Int) < (zs.length : Int) := by omega
      have MK := markM_c zs[k] b sy w hb
      have HN : Hid (markB sy zs[k] = false → ∀ i, i < k + 1 → ∀ h : i < zs.length, markB sy zs[i] = false) := Lib.hid (fun hf i hi hl => by
        by_cases e : i = k
        · subst e; exact hf
        · exact hno.out i (by omega) hl)
      have HY : Hid (markB sy zs[k] = true → ixM sy zs = (k : Int)) := Lib.hid (fun ht => ixM_hit hlt ht hno.out)
      obtain ⟨y, hy⟩ : ∃ y, zs[k] = y := ⟨_, rfl⟩
      rw [hy] at ck MK HN HY
      obtain ⟨mb, hmb⟩ : ∃ mb, markB sy y = mb := ⟨_, rfl⟩
      rw [hmb] at MK HN HY
      clear hy hc hmb
      go_wp2_with fail
      refine MK.mono ?_
      rintro e w' ⟨rfl, rfl⟩
      clear MK
      cases mb with
      | true =>
        have HE := Lib.hid (HY.out rfl)
        clear HY HN
        go_wp2_with fail
        go_ret
        exact ⟨by rw [HE.out]; rfl, rfl⟩
      | false =>
        have HE := Lib.hid (HN.out rfl)
        clear HY HN
        go_wp2_with fail
        go_roundw
        case rel => exact ⟨k + 1, by omega, by go_num, by first | trivial | rfl, HE⟩
        case measure => simp [intOf]; omega
    · obtain rfl : k = zs.length := by omega
      have HE : Hid (ixM sy zs = -1) := Lib.hid (ixM_miss fun i hi => hno.out i hi hi)
      clear hno
      go_wp2_with fail
      go_ret
      exact ⟨by rw [HE.out]; rfl, rfl⟩
theorem ixM_any (sy : Int) (zs : List Int) : decide (0 ≤ ixM sy zs) = zs.any (markB sy) := by
  unfold ixM
  cases h : zs.findIdx? (markB sy) with
  | none =>
    have := List.findIdx?_eq_none_iff.1 h
    have e : zs.any (markB sy) = false := by
      rw [List.any_eq_false]
      intro x hx
      rw [this x hx]
      simp
    rw [e]
    rfl
  | some k =>
    obtain ⟨hk, h1, _⟩ := List.findIdx?_eq_some_iff_getElem.1 h
    have e : zs.any (markB sy) = true := List.any_eq_true.2 ⟨_, List.getElem_mem hk, h1⟩
    rw [e]
    simp
set_option maxRecDepth 20000 in
theorem hasM_c (v : Value) (zs : List Int) (b : Nat) (sy : Int) (w : World) (h : Ints w v zs) (hb : w.cell? ⟨b, 1, none⟩ = some (.int .i64 sy)) (hn : zs.length ≤ 1000) :
    Calls Tryz.prog 73 #[v, .func (.func 70) #[] #[.pointer (some ⟨b, 0, none⟩)]] w fun e w' => e = .returned (.bool (zs.any (markB sy))) ∧ w = w' := by
  have IX := idxM_c v zs b sy w h hb hn
  have HE := Lib.hid (ixM_any sy zs)
  obtain ⟨A, c, rfl, _, _⟩ := h.form
  generalize ixM sy zs = z at *
  go_enter Tryz.func73, Tryz.ntmps73
  go_wp2_with fail
  refine IX.mono ?_
  rintro e w' ⟨rfl, rfl⟩
  go_wp2_with fail
  go_ret
  exact ⟨by rw [← HE.out]; rfl, rfl⟩
end Go.Proofs.YtfghojbbofobeaaGreatDoor
end
