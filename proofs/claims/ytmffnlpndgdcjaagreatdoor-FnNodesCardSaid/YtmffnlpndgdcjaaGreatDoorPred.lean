/- Contract of the program's node before a node. The node has from 3 to 11 numbers, the place is in range, the move is at most one.
Contracts of the program's list of the nodes before a node. The machine is valid, the node is valid.
Contract of the program's list of the nodes before a node. The machine is valid, the node is valid. -/
import Derived.Test.YtmffnlpndgdcjaaGreatDoorRead
import Derived.Test.YtmffnlpndgdcjaaGreatDoorMix
import Derived.Deep.DeepCutAuto
namespace Go.Proofs.YtmffnlpndgdcjaaGreatDoor
open Go Go.RowKit Go.Proofs
set_option maxHeartbeats 400000
def BeforeRes (B : Nat) (w : World) (o : Option (List Int)) (e : Ending) (w' : World) : Prop :=
  ∃ u ok, e = .returned (.tuple #[u, .bool ok]) ∧ ok = o.isSome ∧ (∀ y, o = some y → OwnInts B w' u y) ∧ (∃ A n c, u = .slice A n c) ∧ Ext w w'
theorem beforeRes_none {B : Nat} {w w' : World} {o : Option (List Int)} {A : Option Addr} {n c : Nat} (ho : o = none) (hx : Ext w w') : BeforeRes B w o (.returned (.tuple #[.slice A n c, .bool false])) w' :=
  ⟨_, false, rfl, (by rw [ho]; rfl), (fun y hy => by rw [ho] at hy; cases hy), ⟨_, _, _, rfl⟩, hx⟩
theorem beforeRes_some {B : Nat} {w w' : World} {o : Option (List Int)} {y : List Int} {A : Option Addr} {n c : Nat} (ho : o = some y) (hu : OwnInts B w' (.slice A n c) y) (hx : Ext w w') : BeforeRes B w o (.returned (.tuple #[.slice A n c, .bool true])) w' :=
  ⟨_, true, rfl, (by rw [ho]; rfl), (fun z hz => by rw [ho] at hz; injection hz with hz; subst hz; exact hu), ⟨_, _, _, rfl⟩, hx⟩
set_option maxHeartbeats 4000000 in
theorem segmentBefore_c (v : Value) (x : List Int) (p a : Int) (r : RuleD) (w : World) (h : Ints w v x) (hl : 3 ≤ x.length) (hl' : x.length ≤ 11) (hx0 : -1 ≤ x.getD 0 0) (hx0' : x.getD 0 0 ≤ (x.length : Int) - 2) (hm : -1 ≤ r.m) (hm' : r.m ≤ 1) :
    Calls Tryz.prog 43 #[v, .int .i64 p, .int .i64 a, .agg #[.int .i64 r.w, .int .i64 r.m, .int .i64 r.n]] w (BeforeRes w.heap.size w (before x p a r)) := by
  have hW := fun H y e1 e2 => beforeWays x p a r (x.getD 0 0) (x.getD 1 0) H ((x.length : Int) - 2) y rfl rfl e1 rfl e2
  obtain ⟨w1, bk, e1, e2, hx, _, _, c0, c1, c2⟩ := box3 w (.int .i64 r.w) (.int .i64 r.m) (.int .i64 r.n) 73
  obtain ⟨A, c, rfl, h1, h2⟩ := h.form
  obtain ⟨b, off, rfl, hc⟩ := h.at (k := 0) (by omega)
  have hg : ∀ j, j < x.length → w.cell? ⟨b, off + j, none⟩ = some (.int .i64 (x.getD j 0)) := fun j hj => by
    rw [hc j hj, List.getD_eq_getElem?_getD, List.getElem?_eq_getElem hj]; rfl
  have k0 := hx.cell (hg 0 (by omega))
  have k1 := hx.cell (hg 1 (by omega))
  have hi1 := h.ext hx
  have HW := Lib.hid hW
  have HG := Lib.hid hg
  have E1 := Lib.hid e1
  have E2 := Lib.hid e2
  clear hc hW hg e1 e2
  generalize hX0 : x.getD 0 0 = x0 at *
  generalize hX1 : x.getD 1 0 = x1 at *
  clear hX0 hX1
  have hln1 : (1 : Int) < (x.length : Int) := by omega
  have hln0 : (0 : Int) < (x.length : Int) := by omega
  simp only [Nat.add_zero] at k0
  go_enter Tryz.func43, Tryz.ntmps43
  go_wp2_with fail
  rw [E1.out, E2.out]
  refine (sizeInt_c _ x _ hi1).mono ?_
  rintro e w' ⟨rfl, rfl⟩
  have d0 := cellR k0
  have d1 := cellR k1
  have f0 := cellR c0
  have f1 := cellR c1
  have f2 := cellR c2
  go_wp2
  refine wp_region_ext (by kernel_rfl) (by kernel_rfl) ?_
  repeat (go_big_quiet_step (fail))
  refine wpQuiet_nil ?_
  intro w2 hx2
  generalize hH : x0 - r.m = H at *
  have hH1 : -2 ≤ H := by omega
  have hH2 : H ≤ 10 := by omega
  have hWW := HW.out H _ rfl rfl
  have hX := hx.trans hx2
  have k0 := hx2.cell k0
  have k1 := hx2.cell k1
  have c0 := hx2.cell c0
  have c1 := hx2.cell c1
  have c2 := hx2.cell c2
  have hi2 := hi1.ext hx2
  have hyc : ∀ k : Nat, k + 2 < x.length → w2.cell? ⟨b, off + (2 + k), none⟩ = some (.int .i64 (x.getD (2 + k) 0)) := fun k hk => hX.cell (HG.out (2 + k) (by omega))
  have HY := Lib.hid hyc
  clear hH HW HG d0 d1 f0 f1 f2 hi1 hx2 hx hyc E1 E2
  have d1 := cellR k1
  have f2 := cellR c2
  rcases hWW with ⟨q1, q2, q3⟩ | ⟨q1, qq⟩
  · have Q3 := Lib.hid q3
    have q1' : decide (0 ≤ x1) = true := by simp [q1]
    clear q3
    go_wp2
    refine wp_region_ext (by kernel_rfl) (by kernel_rfl) ?_
    repeat (go_big_quiet_step (fail))
    refine wpQuiet_nil ?_
    intro w3 hx3
    go_wp2
    go_ret2
    exact beforeRes_none Q3.out (hX.trans hx3)
  rcases qq with ⟨q2, q3⟩ | ⟨q2, q3, q4⟩ | ⟨q2, q3, q4⟩ | ⟨q2, q3, q4, q5⟩ | ⟨q2, q3, q4, q5, q6⟩
  · have Q3 := Lib.hid q3
    have q2' : decide (H < -1) = true := by simp [q2]
    clear q3
    rcases q1 with ⟨q1, q1b⟩ | q1
    · have q1' : decide (0 ≤ x1) = true := by simp [q1]
      go_wp2
      refine wp_region_ext (by kernel_rfl) (by kernel_rfl) ?_
      repeat (go_big_quiet_step (fail))
      refine wpQuiet_nil ?_
      intro w3 hx3
      go_wp2
      go_ret2
      exact beforeRes_none Q3.out (hX.trans hx3)
    · have q1' : decide (0 ≤ x1) = false := by simp; omega
      go_wp2
      refine wp_region_ext (by kernel_rfl) (by kernel_rfl) ?_
      repeat (go_big_quiet_step (fail))
      refine wpQuiet_nil ?_
      intro w3 hx3
      go_wp2
      go_ret2
      exact beforeRes_none Q3.out (hX.trans hx3)
  · have Q3 := Lib.hid q4
    have q2' : decide (H < -1) = false := by simp; omega
    have q3' : decide ((x.length : Int) - 2 < H) = true := by simp; omega
    clear q4
    rcases q1 with ⟨q1, q1b⟩ | q1
    · have q1' : decide (0 ≤ x1) = true := by simp [q1]
      go_wp2
      refine wp_region_ext (by kernel_rfl) (by kernel_rfl) ?_
      repeat (go_big_quiet_step (fail))
      refine wpQuiet_nil ?_
      intro w3 hx3
      go_wp2
      go_ret2
      exact beforeRes_none Q3.out (hX.trans hx3)
    · have q1' : decide (0 ≤ x1) = false := by simp; omega
      go_wp2
      refine wp_region_ext (by kernel_rfl) (by kernel_rfl) ?_
      repeat (go_big_quiet_step (fail))
      refine wpQuiet_nil ?_
      intro w3 hx3
      go_wp2
      go_ret2
      exact beforeRes_none Q3.out (hX.trans hx3)
  · have q2' : decide (H < -1) = false := by simp at q3; simp; omega
    have q3' : decide ((x.length : Int) - 2 < H) = false := by simp; omega
    have hHlo : -1 ≤ H := by simp at q3; omega
    have Q3 := Lib.hid q4
    clear q4
    rcases q1 with ⟨q1, q1b⟩ | q1
    · have q1' : decide (0 ≤ x1) = true := by simp [q1]
      go_wp2
      refine wp_region_ext (by kernel_rfl) (by kernel_rfl) ?_
      repeat (go_big_quiet_step (fail))
      refine wpQuiet_nil ?_
      intro w3 hx3
      have hX := hX.trans hx3
      have k1 := hx3.cell k1
      have c0 := hx3.cell c0
      have hi3 := hi2.ext hx3
      have HY := Lib.hid (fun (k : Nat) (hk : k + 2 < x.length) => hx3.cell (HY.out k hk))
      clear d1 f2
      go_wp2_with fail
      set_option maxRecDepth 20000 in
      go_region_held3 (fun w' => w'.cell? ⟨b, off + 1, none⟩ = some (.int .i64 x1)) (first | go_keep | exact hx4.cell ((Ext.drew _).cell k1)) (first | (go_at_call 53; ((with_reducible refine (segmentNode_c _ x H (-1) 0 _ (hi3.ext (Ext.drew _)) hl (by omega) (by omega) (by omega)).mono ?_)); rintro e w4 ⟨u4, rfl, hu4, hx4⟩; obtain ⟨A4, c4, rfl, _, _⟩ := hu4.ints.form))
      have hX4 := (hX.trans (Ext.drew _)).trans hx4
      have hu5 := hu4.base (b' := w.heap.size) hX.size
      go_wp2
      go_ret2
      exact beforeRes_some (by rw [Q3.out, if_pos q1]) (by simpa using hu5) hX4
    · have q1' : decide (0 ≤ x1) = false := by simp; omega
      go_wp2
      refine wp_region_ext (by kernel_rfl) (by kernel_rfl) ?_
      repeat (go_big_quiet_step (fail))
      refine wpQuiet_nil ?_
      intro w3 hx3
      have hX := hX.trans hx3
      have k1 := hx3.cell k1
      have c0 := hx3.cell c0
      have hi3 := hi2.ext hx3
      have HY := Lib.hid (fun (k : Nat) (hk : k + 2 < x.length) => hx3.cell (HY.out k hk))
      clear d1 f2
      go_wp2_with fail
      set_option maxRecDepth 20000 in
      go_region_held3 (fun w' => w'.cell? ⟨b, off + 1, none⟩ = some (.int .i64 x1)) (first | go_keep | exact hx4.cell ((Ext.drew _).cell k1)) (first | (go_at_call 53; ((with_reducible refine (segmentNode_c _ x H (-1) 0 _ (hi3.ext (Ext.drew _)) hl (by omega) (by omega) (by omega)).mono ?_)); rintro e w4 ⟨u4, rfl, hu4, hx4⟩; obtain ⟨A4, c4, rfl, _, _⟩ := hu4.ints.form))
      have hX4 := (hX.trans (Ext.drew _)).trans hx4
      have hu5 := hu4.base (b' := w.heap.size) hX.size
      go_wp2
      go_ret2
      exact beforeRes_none (by rw [Q3.out, if_neg (by omega)]) hX4
  · have q2' : decide (H < -1) = false := by simp; omega
    have q3' : decide ((x.length : Int) - 2 < H) = false := by simp at q4; simp; omega
    have hHlo : -1 ≤ H := q2
    have Q3 := Lib.hid q5
    clear q5
    rcases q1 with ⟨q1, q1b⟩ | q1
    · have q1' : decide (0 ≤ x1) = true := by simp [q1]
      go_wp2
      refine wp_region_ext (by kernel_rfl) (by kernel_rfl) ?_
      repeat (go_big_quiet_step (fail))
      refine wpQuiet_nil ?_
      intro w3 hx3
      have hX := hX.trans hx3
      have k1 := hx3.cell k1
      have c0 := hx3.cell c0
      have hi3 := hi2.ext hx3
      have HY := Lib.hid (fun (k : Nat) (hk : k + 2 < x.length) => hx3.cell (HY.out k hk))
      clear d1 f2
      go_wp2_with fail
      set_option maxRecDepth 20000 in
      go_region_held3 (fun w' => w'.cell? ⟨b, off + 1, none⟩ = some (.int .i64 x1)) (first | go_keep | exact hx4.cell ((Ext.drew _).cell k1)) (first | (go_at_call 53; ((with_reducible refine (segmentNode_c _ x H (-1) 0 _ (hi3.ext (Ext.drew _)) hl (by omega) (by omega) (by omega)).mono ?_)); rintro e w4 ⟨u4, rfl, hu4, hx4⟩; obtain ⟨A4, c4, rfl, _, _⟩ := hu4.ints.form))
      have hX4 := (hX.trans (Ext.drew _)).trans hx4
      have hu5 := hu4.base (b' := w.heap.size) hX.size
      go_wp2
      go_ret2
      exact beforeRes_some (by rw [Q3.out, if_pos q1]) (by simpa using hu5) hX4
    · have q1' : decide (0 ≤ x1) = false := by simp; omega
      go_wp2
      refine wp_region_ext (by kernel_rfl) (by kernel_rfl) ?_
      repeat (go_big_quiet_step (fail))
      refine wpQuiet_nil ?_
      intro w3 hx3
      have hX := hX.trans hx3
      have k1 := hx3.cell k1
      have c0 := hx3.cell c0
      have hi3 := hi2.ext hx3
      have HY := Lib.hid (fun (k : Nat) (hk : k + 2 < x.length) => hx3.cell (HY.out k hk))
      clear d1 f2
      go_wp2_with fail
      set_option maxRecDepth 20000 in
      go_region_held3 (fun w' => w'.cell? ⟨b, off + 1, none⟩ = some (.int .i64 x1)) (first | go_keep | exact hx4.cell ((Ext.drew _).cell k1)) (first | (go_at_call 53; ((with_reducible refine (segmentNode_c _ x H (-1) 0 _ (hi3.ext (Ext.drew _)) hl (by omega) (by omega) (by omega)).mono ?_)); rintro e w4 ⟨u4, rfl, hu4, hx4⟩; obtain ⟨A4, c4, rfl, _, _⟩ := hu4.ints.form))
      have hX4 := (hX.trans (Ext.drew _)).trans hx4
      have hu5 := hu4.base (b' := w.heap.size) hX.size
      go_wp2
      go_ret2
      exact beforeRes_none (by rw [Q3.out, if_neg (by omega)]) hX4
  · have q2' : decide (H < -1) = false := by simp; omega
    have q3' : decide ((x.length : Int) - 2 < H) = false := by simp; omega
    obtain ⟨k, rfl⟩ := Int.eq_ofNat_of_zero_le q2
    have ek : (2 + (k : Int)).toNat = 2 + k := by omega
    rw [ek] at q6
    have hkl : k + 2 < x.length := by omega
    have hwr : IntKind.i64.wrap (2 + (k : Int)) = 2 + (k : Int) := IntWalk.i64_in _ (by omega)
    have hb1 : (0 : Int) ≤ 2 + (k : Int) := by omega
    have hb2 : 2 + (k : Int) < (x.length : Int) := by omega
    generalize hY : x.getD (2 + k) 0 = y at *
    rcases q6 with ⟨r1, r2⟩ | ⟨r1, r2, r3⟩ | ⟨r1, r2, r3⟩
    · have Q3 := Lib.hid r2
      clear r2
      rcases q1 with ⟨q1, q1b⟩ | q1
      · have q1' : decide (0 ≤ x1) = true := by simp [q1]
        go_wp2
        refine wp_region_ext (by kernel_rfl) (by kernel_rfl) ?_
        repeat (go_big_quiet_step (fail))
        refine wpQuiet_nil ?_
        intro w3 hx3
        have hX := hX.trans hx3
        have c0 := hx3.cell c0
        have hi3 := hi2.ext hx3
        have ky := hx3.cell (HY.out k hkl)
        rw [hY] at ky
        clear d1 f2
        have dy := cellR ky
        have d0 := cellR c0
        go_wp2_with fail
        refine wp_region_mix 4 _ (fun u w' => OwnInts w.heap.size w' u (segNode x k p a)) (by kernel_rfl) (by kernel_rfl) rfl rfl rfl ?_
        simp only [List.take_succ_cons, List.take_zero, List.drop_succ_cons, List.drop_zero]
        repeat (go_big_quiet_step (fail))
        refine wpQuiet_nil ⟨⟨rfl, fun w4 hx4 => ?_⟩, ?_⟩
        · unfold stirAt
          go_simp
          simp only [stirUpon]
          refine (segmentNode_c _ x k p a _ (hi3.ext hx4) hl (by omega) (by omega) (by omega)).mono ?_
          rintro e w5 ⟨u5, rfl, hu5, hx5⟩
          exact ⟨u5, rfl, hx5, hu5.base (hX.trans hx4).size⟩
        · rintro u ⟨w4, hx4, hu4⟩
          obtain ⟨A4, c4, rfl, _, _⟩ := hu4.ints.form
          clear hx4 hu4
          simp only [Act.put, List.setIfInBounds_toArray, List.set_cons_succ, List.set_cons_zero]
          repeat (go_big_quiet_step (fail))
          refine wpQuiet_nil ?_
          intro w5 hx5 hu5
          go_wp2
          go_ret2
          exact beforeRes_some Q3.out (by simpa using hu5) (hX.trans hx5)
      · have q1' : decide (0 ≤ x1) = false := by simp; omega
        go_wp2
        refine wp_region_ext (by kernel_rfl) (by kernel_rfl) ?_
        repeat (go_big_quiet_step (fail))
        refine wpQuiet_nil ?_
        intro w3 hx3
        have hX := hX.trans hx3
        have c0 := hx3.cell c0
        have hi3 := hi2.ext hx3
        have ky := hx3.cell (HY.out k hkl)
        rw [hY] at ky
        clear d1 f2
        have dy := cellR ky
        have d0 := cellR c0
        go_wp2_with fail
        refine wp_region_mix 4 _ (fun u w' => OwnInts w.heap.size w' u (segNode x k p a)) (by kernel_rfl) (by kernel_rfl) rfl rfl rfl ?_
        simp only [List.take_succ_cons, List.take_zero, List.drop_succ_cons, List.drop_zero]
        repeat (go_big_quiet_step (fail))
        refine wpQuiet_nil ⟨⟨rfl, fun w4 hx4 => ?_⟩, ?_⟩
        · unfold stirAt
          go_simp
          simp only [stirUpon]
          refine (segmentNode_c _ x k p a _ (hi3.ext hx4) hl (by omega) (by omega) (by omega)).mono ?_
          rintro e w5 ⟨u5, rfl, hu5, hx5⟩
          exact ⟨u5, rfl, hx5, hu5.base (hX.trans hx4).size⟩
        · rintro u ⟨w4, hx4, hu4⟩
          obtain ⟨A4, c4, rfl, _, _⟩ := hu4.ints.form
          clear hx4 hu4
          simp only [Act.put, List.setIfInBounds_toArray, List.set_cons_succ, List.set_cons_zero]
          repeat (go_big_quiet_step (fail))
          refine wpQuiet_nil ?_
          intro w5 hx5 hu5
          go_wp2
          go_ret2
          exact beforeRes_some Q3.out (by simpa using hu5) (hX.trans hx5)
    · have Q3 := Lib.hid r3
      clear r3
      rcases q1 with ⟨q1, q1b⟩ | q1
      · have q1' : decide (0 ≤ x1) = true := by simp [q1]
        go_wp2
        refine wp_region_ext (by kernel_rfl) (by kernel_rfl) ?_
        repeat (go_big_quiet_step (fail))
        refine wpQuiet_nil ?_
        intro w3 hx3
        have hX := hX.trans hx3
        have c0 := hx3.cell c0
        have hi3 := hi2.ext hx3
        have ky := hx3.cell (HY.out k hkl)
        rw [hY] at ky
        clear d1 f2
        have dy := cellR ky
        have d0 := cellR c0
        go_wp2_with fail
        refine wp_region_mix 4 _ (fun u w' => OwnInts w.heap.size w' u (segNode x k p a)) (by kernel_rfl) (by kernel_rfl) rfl rfl rfl ?_
        simp only [List.take_succ_cons, List.take_zero, List.drop_succ_cons, List.drop_zero]
        repeat (go_big_quiet_step (fail))
        refine wpQuiet_nil ⟨⟨rfl, fun w4 hx4 => ?_⟩, ?_⟩
        · unfold stirAt
          go_simp
          simp only [stirUpon]
          refine (segmentNode_c _ x k p a _ (hi3.ext hx4) hl (by omega) (by omega) (by omega)).mono ?_
          rintro e w5 ⟨u5, rfl, hu5, hx5⟩
          exact ⟨u5, rfl, hx5, hu5.base (hX.trans hx4).size⟩
        · rintro u ⟨w4, hx4, hu4⟩
          obtain ⟨A4, c4, rfl, _, _⟩ := hu4.ints.form
          clear hx4 hu4
          simp only [Act.put, List.setIfInBounds_toArray, List.set_cons_succ, List.set_cons_zero]
          repeat (go_big_quiet_step (fail))
          refine wpQuiet_nil ?_
          intro w5 hx5 hu5
          go_wp2
          go_ret2
          exact beforeRes_some Q3.out (by simpa using hu5) (hX.trans hx5)
      · have q1' : decide (0 ≤ x1) = false := by simp; omega
        go_wp2
        refine wp_region_ext (by kernel_rfl) (by kernel_rfl) ?_
        repeat (go_big_quiet_step (fail))
        refine wpQuiet_nil ?_
        intro w3 hx3
        have hX := hX.trans hx3
        have c0 := hx3.cell c0
        have hi3 := hi2.ext hx3
        have ky := hx3.cell (HY.out k hkl)
        rw [hY] at ky
        clear d1 f2
        have dy := cellR ky
        have d0 := cellR c0
        go_wp2_with fail
        refine wp_region_mix 4 _ (fun u w' => OwnInts w.heap.size w' u (segNode x k p a)) (by kernel_rfl) (by kernel_rfl) rfl rfl rfl ?_
        simp only [List.take_succ_cons, List.take_zero, List.drop_succ_cons, List.drop_zero]
        repeat (go_big_quiet_step (fail))
        refine wpQuiet_nil ⟨⟨rfl, fun w4 hx4 => ?_⟩, ?_⟩
        · unfold stirAt
          go_simp
          simp only [stirUpon]
          refine (segmentNode_c _ x k p a _ (hi3.ext hx4) hl (by omega) (by omega) (by omega)).mono ?_
          rintro e w5 ⟨u5, rfl, hu5, hx5⟩
          exact ⟨u5, rfl, hx5, hu5.base (hX.trans hx4).size⟩
        · rintro u ⟨w4, hx4, hu4⟩
          obtain ⟨A4, c4, rfl, _, _⟩ := hu4.ints.form
          clear hx4 hu4
          simp only [Act.put, List.setIfInBounds_toArray, List.set_cons_succ, List.set_cons_zero]
          repeat (go_big_quiet_step (fail))
          refine wpQuiet_nil ?_
          intro w5 hx5 hu5
          go_wp2
          go_ret2
          exact beforeRes_some Q3.out (by simpa using hu5) (hX.trans hx5)
    · have Q3 := Lib.hid r3
      clear r3
      rcases q1 with ⟨q1, q1b⟩ | q1
      · have q1' : decide (0 ≤ x1) = true := by simp [q1]
        go_wp2
        refine wp_region_ext (by kernel_rfl) (by kernel_rfl) ?_
        repeat (go_big_quiet_step (fail))
        refine wpQuiet_nil ?_
        intro w3 hx3
        have hX := hX.trans hx3
        have c0 := hx3.cell c0
        have hi3 := hi2.ext hx3
        have ky := hx3.cell (HY.out k hkl)
        rw [hY] at ky
        clear d1 f2
        have dy := cellR ky
        have d0 := cellR c0
        go_wp2_with fail
        refine wp_region_mix 4 _ (fun u w' => OwnInts w.heap.size w' u (segNode x k p a)) (by kernel_rfl) (by kernel_rfl) rfl rfl rfl ?_
        simp only [List.take_succ_cons, List.take_zero, List.drop_succ_cons, List.drop_zero]
        repeat (go_big_quiet_step (fail))
        refine wpQuiet_nil ⟨⟨rfl, fun w4 hx4 => ?_⟩, ?_⟩
        · unfold stirAt
          go_simp
          simp only [stirUpon]
          refine (segmentNode_c _ x k p a _ (hi3.ext hx4) hl (by omega) (by omega) (by omega)).mono ?_
          rintro e w5 ⟨u5, rfl, hu5, hx5⟩
          exact ⟨u5, rfl, hx5, hu5.base (hX.trans hx4).size⟩
        · rintro u ⟨w4, hx4, hu4⟩
          obtain ⟨A4, c4, rfl, _, _⟩ := hu4.ints.form
          clear hx4 hu4
          simp only [Act.put, List.setIfInBounds_toArray, List.set_cons_succ, List.set_cons_zero]
          repeat (go_big_quiet_step (fail))
          refine wpQuiet_nil ?_
          intro w5 hx5 hu5
          go_wp2
          go_ret2
          exact beforeRes_none Q3.out (hX.trans hx5)
      · have q1' : decide (0 ≤ x1) = false := by simp; omega
        go_wp2
        refine wp_region_ext (by kernel_rfl) (by kernel_rfl) ?_
        repeat (go_big_quiet_step (fail))
        refine wpQuiet_nil ?_
        intro w3 hx3
        have hX := hX.trans hx3
        have c0 := hx3.cell c0
        have hi3 := hi2.ext hx3
        have ky := hx3.cell (HY.out k hkl)
        rw [hY] at ky
        clear d1 f2
        have dy := cellR ky
        have d0 := cellR c0
        go_wp2_with fail
        refine wp_region_mix 4 _ (fun u w' => OwnInts w.heap.size w' u (segNode x k p a)) (by kernel_rfl) (by kernel_rfl) rfl rfl rfl ?_
        simp only [List.take_succ_cons, List.take_zero, List.drop_succ_cons, List.drop_zero]
        repeat (go_big_quiet_step (fail))
        refine wpQuiet_nil ⟨⟨rfl, fun w4 hx4 => ?_⟩, ?_⟩
        · unfold stirAt
          go_simp
          simp only [stirUpon]
          refine (segmentNode_c _ x k p a _ (hi3.ext hx4) hl (by omega) (by omega) (by omega)).mono ?_
          rintro e w5 ⟨u5, rfl, hu5, hx5⟩
          exact ⟨u5, rfl, hx5, hu5.base (hX.trans hx4).size⟩
        · rintro u ⟨w4, hx4, hu4⟩
          obtain ⟨A4, c4, rfl, _, _⟩ := hu4.ints.form
          clear hx4 hu4
          simp only [Act.put, List.setIfInBounds_toArray, List.set_cons_succ, List.set_cons_zero]
          repeat (go_big_quiet_step (fail))
          refine wpQuiet_nil ?_
          intro w5 hx5 hu5
          go_wp2
          go_ret2
          exact beforeRes_none Q3.out (hX.trans hx5)
end Go.Proofs.YtmffnlpndgdcjaaGreatDoor
namespace Go.Proofs.YtmffnlpndgdcjaaGreatDoor
open Go Go.RowKit Go.Proofs
set_option maxHeartbeats 400000
theorem pred1_c (z v : Value) (zs ys : List Int) (b : Nat) (w : World) (hz : Ints w z zs) (hb : Blk w b 35 #[v]) (hv : Ints w v ys) :
    Calls Tryz.prog 45 #[z, .pointer (some ⟨b, 0, none⟩)] w fun e w' => e = .returned (.bool (lEq ys zs)) ∧ Ext w w' := by
  have c0 := hb.cell 0
  simp only [List.getElem?_toArray, List.getElem?_cons_zero] at c0
  go_enter Tryz.func45, Tryz.ntmps45
  go_wp2_with fail
  refine (slicesEqual_c _ _ _ _ _ hv hz).mono ?_
  rintro e w2 ⟨rfl, hx2⟩
  go_wp2
  go_ret
  exact ⟨rfl, hx2⟩
theorem indexRow_c (u v : Value) (xss : List (List Int)) (ys : List Int) (b : Nat) (w : World) (hu : IntRows w u xss) (hb : Blk w b 35 #[v]) (hv : Ints w v ys) :
    Calls Tryz.prog 67 #[u, .func (.func 45) #[] #[.pointer (some ⟨b, 0, none⟩)]] w fun e w' => (∃ k : Int, e = .returned (.int .i64 k) ∧ decide (0 ≤ k) = decide (ys ∈ xss)) ∧ Ext w w' := by
  obtain ⟨A, c, rfl, h5, h5'⟩ := hu.form
  go_enter Tryz.func67, Tryz.ntmps67
  go_wp2
  go_loopw [8] (fun i wr => ∃ k : Nat, k ≤ xss.length ∧ i = .int .i64 k ∧ Ext w wr ∧ notIn ys xss k) (fun i _ => xss.length - (intOf i).toNat)
  case atStart => exact ⟨0, Nat.zero_le _, rfl, Ext.refl _, fun x hx => by simp at hx⟩
  case round =>
    obtain ⟨k, hk, rfl, hx, ht⟩ := hrel
    by_cases hlt : k < xss.length
    · obtain ⟨b', off, rfl, hc⟩ := hu.at hlt
      obtain ⟨A1, d1, c0, r0⟩ := hc k hlt
      have c0 := hx.cell c0
      clear hc
      go_wp2_with fail
      refine (pred1_c _ _ _ _ b _ (r0.ext hx) (hb.ext hx) (hv.ext hx)).mono ?_
      rintro e w2 ⟨rfl, hx2⟩
      by_cases he : xss[k] = ys
      · have H : lEq ys xss[k] = true := lEq_true he.symm
        have hm : ys ∈ xss := he ▸ List.getElem_mem hlt
        have HM := Lib.hid hm
        clear he hm
        go_wp2
        go_ret
        exact ⟨⟨k, rfl, by simp [HM.out]⟩, hx.trans hx2⟩
      · have H : lEq ys xss[k] = false := lEq_false (fun h => he h.symm)
        go_wp2
        go_roundw
        case rel => exact ⟨k + 1, by omega, by go_num, hx.trans hx2, notIn_step ht hlt he⟩
        case measure => simp [intOf]; omega
    · go_wp2
      go_ret
      exact ⟨⟨-1, rfl, by simp [notIn_end ht (by omega)]⟩, hx⟩
theorem containsRow_c (u v : Value) (xss : List (List Int)) (ys : List Int) (b : Nat) (w : World) (hu : IntRows w u xss) (hb : Blk w b 35 #[v]) (hv : Ints w v ys) :
    Calls Tryz.prog 44 #[u, .func (.func 45) #[] #[.pointer (some ⟨b, 0, none⟩)]] w fun e w' => e = .returned (.bool (decide (ys ∈ xss))) ∧ Ext w w' := by
  go_enter Tryz.func44, Tryz.ntmps44
  go_wp2_with fail
  refine (indexRow_c u v xss ys b _ hu hb hv).mono ?_
  rintro e w2 ⟨⟨k, rfl, hk⟩, hx2⟩
  have HK := Lib.hid hk
  clear hk
  go_wp2
  go_ret
  exact ⟨by simp [← HK.out], hx2⟩
/-- A list, and a further row if it is new. -/
def addNew (xss : List (List Int)) (o : Option (List Int)) : List (List Int) :=
  match o with
  | some y => if y ∈ xss then xss else xss ++ [y]
  | none => xss
/-- The nodes before a node, by the first k rules. -/
def predsTo (m : MachD) (x : List Int) : Nat → List (List Int)
  | 0 => []
  | k + 1 => match m.rules[k]? with
    | some r => if r = noR then predsTo m x k else addNew (predsTo m x k) (before x ((k : Int) / m.sy) ((k : Int) % m.sy) r)
    | none => predsTo m x k
theorem predsTo_no {m : MachD} {x : List Int} {k : Nat} (hk : k < m.rules.length) (h : m.rules[k] = noR) : predsTo m x (k + 1) = predsTo m x k := by
  simp [predsTo, hk, h]
theorem predsTo_yes {m : MachD} {x : List Int} {k : Nat} (hk : k < m.rules.length) (h : ¬ m.rules[k] = noR) : predsTo m x (k + 1) = addNew (predsTo m x k) (before x ((k : Int) / m.sy) ((k : Int) % m.sy) m.rules[k]) := by
  simp [predsTo, hk, h]
theorem addNew_length (xss : List (List Int)) (o : Option (List Int)) : (addNew xss o).length ≤ xss.length + 1 := by
  unfold addNew
  split
  · split <;> simp
  · omega
theorem predsTo_length (m : MachD) (x : List Int) (k : Nat) : (predsTo m x k).length ≤ k := by
  induction k with
  | zero => simp [predsTo]
  | succ k ih =>
    unfold predsTo
    split
    · split
      · omega
      · exact Nat.le_trans (addNew_length _ _) (by omega)
    · omega
end Go.Proofs.YtmffnlpndgdcjaaGreatDoor
namespace Go.Proofs.YtmffnlpndgdcjaaGreatDoor
open Go Go.RowKit Go.Proofs
set_option maxHeartbeats 400000
/-- What the program's statement leaves: a variable with the node before, and whether there is one. -/
def CutRes (w2 : World) (o : Option (List Int)) (s8 s9 : Value) (wx : World) : Prop :=
  ∃ bv u, s8 = .pointer (some ⟨bv, 0, none⟩) ∧ s9 = .bool o.isSome ∧ Blk wx bv 35 #[u] ∧ Ext w2 wx ∧ w2.heap.size ≤ bv ∧ (∀ y, o = some y → OwnInts w2.heap.size wx u y) ∧ (∃ A n c, u = .slice A n c)
set_option maxHeartbeats 4000000 in
theorem segmentPredecessors_c (v xv : Value) (m : MachD) (x : List Int) (w : World) (h : Mach w v m) (hxv : Ints w xv x) (hn : m.rules.length ≤ 6000) (h1 : 2 ≤ m.sy) (h2 : m.sy ≤ 6)
    (hr1 : ∀ r ∈ m.rules, ¬ r = noR → -1 ≤ r.m ∧ r.m ≤ 1) (hl : 3 ≤ x.length) (hl' : x.length ≤ 11) (hx0 : -1 ≤ x.getD 0 0) (hx0' : x.getD 0 0 ≤ (x.length : Int) - 2) :
    Calls Tryz.prog 22 #[v, xv] w fun e w' => ∃ u, e = .returned u ∧ OwnIntRows w.heap.size w' u (predsTo m x m.rules.length) ∧ Ext w w' := by
  obtain ⟨rv, rfl, hr⟩ := h
  obtain ⟨Ar, cr, rfl, h3, h3'⟩ := hr.form
  obtain ⟨Ax, cx, rfl, _, _⟩ := hxv.form
  obtain ⟨i0, hi, hz0, hz1, hz2⟩ := info_parts rowInfo
  have hs0 : ¬ m.sy = 0 := by omega
  have HR1 := Lib.hid hr1
  clear hr1
  go_enter Tryz.func22, Tryz.ntmps22
  go_wp2
  have hX0 := (Ext.alloc w (.cells #[.int .i64 m.sy, .int .i64 m.st, .slice Ar m.rules.length cr] 26)).trans (Ext.alloc _ (.cells #[] 35))
  have bM := (Blk.new w w.heap.size 26 #[.int .i64 m.sy, .int .i64 m.st, .slice Ar m.rules.length cr] rfl).alloc (.cells #[] 35)
  have hown0 : ((w.alloc (.cells #[.int .i64 m.sy, .int .i64 m.st, .slice Ar m.rules.length cr] 26)).alloc (.cells #[] 35)).ownsRow w.heap.size 35 1 (.slice (some ⟨w.heap.size + 1, 0, none⟩) 0 0) 0 [] := by
    have := World.ownsRow_made (base := w.heap.size) (e := 35) (size := 1) (w.alloc (.cells #[.int .i64 m.sy, .int .i64 m.st, .slice Ar m.rules.length cr] 26)) #[] 0 (by simp) (by unfold maxLen; omega) (by simp)
    simpa using this
  generalize (w.alloc (.cells #[.int .i64 m.sy, .int .i64 m.st, .slice Ar m.rules.length cr] 26)).alloc (.cells #[] 35) = W at *
  go_loopw [5, 14] (fun l i wr => ∃ k : Nat, k ≤ m.rules.length ∧ i = .int .i64 k ∧ Ext w wr ∧ Blk wr w.heap.size 26 #[.int .i64 m.sy, .int .i64 m.st, .slice Ar m.rules.length cr] ∧ OwnIntRows w.heap.size wr l (predsTo m x k)) (fun _ i _ => m.rules.length - (intOf i).toNat)
  case atStart => exact ⟨0, Nat.zero_le _, rfl, hX0, bM, ⟨[], hown0, fun i hi => by simp [predsTo] at hi, fun i j u u' g hi => by simp at hi⟩⟩
  case round =>
    clear hX0 bM hown0
    obtain ⟨k, hk, rfl, hX, bM, ho⟩ := hrel
    obtain ⟨Al, cl, rfl, h6, h6'⟩ := ho.rows.form
    have hpl := predsTo_length m x k
    by_cases hlt : k < m.rules.length
    · obtain ⟨b', off, rfl, hc⟩ := hr.at hlt
      obtain ⟨c0, c1, c2⟩ := hc k hlt
      have c0 := hX.cell c0
      have c1 := hX.cell c1
      have c2 := hX.cell c2
      have HMV := Lib.hid (HR1.out m.rules[k] (List.getElem_mem hlt))
      clear hc
      go_wp2_with fail
      refine (isRule_c _ _ _ _).mono ?_
      rintro e w2 ⟨rfl, hx2⟩
      have hx2' := (Ext.alloc _ _).trans hx2
      rw [isR_mk]
      have ho2 := ho.ext hx2'
      have bM2 := bM.ext hx2'
      have bR := (Blk.new wr wr.heap.size _ _ rfl).ext hx2
      have hX2 := hX.trans hx2'
      have hxv2 := hxv.ext hX2
      clear c0 c1 c2 hx2 hx2' ho bM
      by_cases he : m.rules[k] = noR
      · have H : isR m.rules[k] = false := by simp [isR, rEq, he]
        have HE := Lib.hid (predsTo_no (x := x) hlt he)
        clear he
        go_wp2
        go_roundw
        case rel => exact ⟨k + 1, by omega, by go_num, hX2, bM2, by rw [HE.out]; exact ho2⟩
        case measure => simp [intOf]; omega
      · have H : isR m.rules[k] = true := by simp [isR, rEq, he]
        have HE := Lib.hid (predsTo_yes (x := x) hlt he)
        obtain ⟨mv1, mv2⟩ := HMV.out he
        clear he
        obtain ⟨q1, hq1⟩ : ∃ q, (k : Int) / m.sy = q := ⟨_, rfl⟩
        obtain ⟨q2, hq2⟩ : ∃ q, (k : Int) % m.sy = q := ⟨_, rfl⟩
        have hw : IntKind.i64.wrap q1 = q1 := by
          have e1 : 0 ≤ (k : Int) / m.sy := Int.ediv_nonneg (by omega) (by omega)
          have e2 : (k : Int) / m.sy ≤ k := Int.ediv_le_self _ (by omega)
          exact IntWalk.i64_in _ (by omega)
        have hd : (k : Int).tdiv m.sy = q1 := by rw [Int.tdiv_eq_ediv_of_nonneg (by omega)]; exact hq1
        have hm : (k : Int).tmod m.sy = q2 := by rw [Int.tmod_eq_emod_of_nonneg (by omega)]; exact hq2
        rw [hq1, hq2] at HE
        have a0 := bM2.cell 0
        have a1 := bR.cell 0
        have a2 := bR.cell 1
        have a3 := bR.cell 2
        simp only [List.getElem?_toArray, List.getElem?_cons_zero, List.getElem?_cons_succ] at a0 a1 a2 a3
        generalize hrk : m.rules[k] = r at *
        have hL2 : (predsTo m x k).length ≤ 6000 := by omega
        go_upto_region 6 with fail
        go_cut [8, 9] (fun s8 s9 wx => CutRes w2 (before x q1 q2 r) s8 s9 wx)
        case first =>
          set_option maxRecDepth 20000 in
          go_region_held3 (fun w' => w'.cell? ⟨w.heap.size, 0, none⟩ = some (.int .i64 m.sy) ∧ w'.cell? ⟨wr.heap.size, 0, none⟩ = some (.int .i64 r.w) ∧ w'.cell? ⟨wr.heap.size, 1, none⟩ = some (.int .i64 r.m) ∧ w'.cell? ⟨wr.heap.size, 2, none⟩ = some (.int .i64 r.n))
            (first | go_keep | exact ⟨hE4.cell a0, hE4.cell a1, hE4.cell a2, hE4.cell a3⟩ | exact ⟨(hE4.trans (Ext.alloc _ _)).cell a0, (hE4.trans (Ext.alloc _ _)).cell a1, (hE4.trans (Ext.alloc _ _)).cell a2, (hE4.trans (Ext.alloc _ _)).cell a3⟩ | exact ⟨(hE4.setCell (p := ⟨w2.heap.size, 0, none⟩) (Nat.le_refl _) _).cell a0, (hE4.setCell (p := ⟨w2.heap.size, 0, none⟩) (Nat.le_refl _) _).cell a1, (hE4.setCell (p := ⟨w2.heap.size, 0, none⟩) (Nat.le_refl _) _).cell a2, (hE4.setCell (p := ⟨w2.heap.size, 0, none⟩) (Nat.le_refl _) _).cell a3⟩)
            (first
              | (go_at_call 43; ((with_reducible refine (segmentBefore_c _ x q1 q2 r _ (hxv2.ext ((Ext.alloc _ _).trans (Ext.drew _))) hl hl' hx0 hx0' mv1 mv2).mono ?_)); rintro e w4 ⟨u, ok, rfl, hok, hres, ⟨A4, n4, c4, rfl⟩, hx4⟩; have hE4 : Ext w2 w4 := ((Ext.alloc _ _).trans (Ext.drew _)).trans hx4; have bV := Blk.ext (Blk.drew (Blk.new w2 w2.heap.size _ _ rfl)) hx4; have vc := bV.cell 0; simp only [List.getElem?_toArray, List.getElem?_cons_zero] at vc; have vf := bV.frozen 0)
              | (go_at_call 43; ((with_reducible refine (segmentBefore_c _ x q1 q2 r _ (hxv2.ext (Ext.drew _)) hl hl' hx0 hx0' mv1 mv2).mono ?_)); rintro e w4 ⟨u, ok, rfl, hok, hres, ⟨A4, n4, c4, rfl⟩, hx4⟩; have hE4 : Ext w2 w4 := (Ext.drew _).trans hx4))
          · go_wp2_with fail
            go_meet
            refine ⟨w4.heap.size, _, rfl, rfl, Blk.new w4 _ _ _ rfl, hE4.trans (Ext.alloc _ _), hE4.size, fun y hy => ((hres y hy).base (by simp)).ext (Ext.alloc _ _), ⟨_, _, _, rfl⟩⟩
          · go_wp2_with fail
            go_meet
            have bV' := bV.set_ 0 (.slice A4 n4 c4)
            refine ⟨w2.heap.size, _, rfl, rfl, bV', hE4.setCell (p := ⟨w2.heap.size, 0, none⟩) (Nat.le_refl _) _, Nat.le_refl _, fun y hy => ?_, ⟨_, _, _, rfl⟩⟩
            have hy' := hres y hy
            refine ownsRow_base (ownsRow_far hy' (fun g hg => ?_) _) (by simp)
            have := (hy'.lt g hg).1
            simp at this ⊢
            omega
        case rest =>
          obtain ⟨bv, u, rfl, rfl, bV, hx4, hbv, hres, ⟨A4, n4, c4, rfl⟩⟩ := hcut
          have hX4 := hX2.trans hx4
          have bM4 := bM2.ext hx4
          have ho4 := ho2.ext hx4
          clear a0 a1 a2 a3 hw hd hm hs0 hxv2 bR
          cases hb : before x q1 q2 r with
          | none =>
            rw [hb] at HE
            have hbs : (before x q1 q2 r).isSome = false := by rw [hb]; rfl
            clear hb hres
            go_wp2
            go_roundw
            case rel => exact ⟨k + 1, by omega, by go_num, hX4, bM4, by rw [HE.out]; exact ho4⟩
            case measure => simp [intOf]; omega
          | some y =>
            rw [hb] at HE
            have hbs : (before x q1 q2 r).isSome = true := by rw [hb]; rfl
            have hy := hres y hb
            clear hb hres
            go_wp2_with fail
            refine (containsRow_c _ _ _ y bv _ ho4.rows bV hy.ints).mono ?_
            rintro e w5 ⟨rfl, hx5⟩
            have hX5 := hX4.trans hx5
            have bM5 := bM4.ext hx5
            have ho5 := ho4.ext hx5
            have hy5 := hy.ext hx5
            have bV5 := (bV.ext hx5).cell 0
            simp only [List.getElem?_toArray, List.getElem?_cons_zero] at bV5
            by_cases hin : y ∈ predsTo m x k
            · have hinb : decide (y ∈ predsTo m x k) = true := by simp [hin]
              have HA := Lib.hid (show addNew (predsTo m x k) (some y) = predsTo m x k by simp [addNew, hin])
              clear hin
              go_wp2
              go_roundw
              case rel => exact ⟨k + 1, by omega, by go_num, hX5, bM5, by rw [HE.out, HA.out]; exact ho5⟩
              case measure => simp [intOf]; omega
            · have hinb : decide (y ∈ predsTo m x k) = false := by simp [hin]
              have HA := Lib.hid (show addNew (predsTo m x k) (some y) = predsTo m x k ++ [y] by simp [addNew, hin])
              clear hin
              obtain ⟨vs, p1, p2, o3⟩ := ho2
              have hne := rows_ne (xss := predsTo m x k) p1 rfl p2 hy5
              have o1 := ownsRow_ext p1 (hx4.trans hx5)
              have o2 : ∀ i, (h : i < (predsTo m x k).length) → ∃ u, vs[i]? = some u ∧ OwnInts w.heap.size w5 u (predsTo m x k)[i] := fun i hi => by
                obtain ⟨u', e, hu'⟩ := p2 i hi
                exact ⟨u', e, hu'.ext (hx4.trans hx5)⟩
              clear p1 p2 ho5 ho4
              have hsz := hX5.size
              go_wp2_with (at_builtin; refine wpList_append_own _ rfl _ _ 29 rfl w.heap.size 35 i0 (.slice none 0 0) 1 24 Tryz.underlying29 hi hz0 hz1 hz2 rfl (by decide) _ _ _ rfl (o1.alloc _) ⟨w5.heap.size, 0, none⟩ 1 1 [.slice A4 n4 c4] rfl rfl ?c1 ?c2 ?c3 ?c4 ?c5 ?_)
              case c1 =>
                intro j u hj
                match j, hj with
                | 0, hj => simp at hj; subst hj; simp [Addr.add]
              case c2 => intro u hu; simp at hu; subst hu; rfl
              case c3 => unfold maxLen; omega
              case c4 => omega
              case c5 => simp; omega
              intro v' w6 hown' hgrow _
              have hX6 : Ext w w6 := hX5.grown (grownBy_trans (World.grownBy_alloc _ _ _) hgrow) (fun b hb => (o1.lt b hb).1)
              have bM6 := Blk.apart (bM5.alloc _) (o1.alloc _) (by decide) hgrow
              have R : OwnIntRows w.heap.size w6 v' (predsTo m x (k + 1)) := by
                rw [HE.out, HA.out]
                refine OwnIntRows.snoc (u := .slice A4 n4 c4) (o1.alloc _) (fun i hi => ?_) o3 ((hy5.ext (Ext.alloc _ _)).base hX2.size) hne hown' hgrow
                obtain ⟨u', e, hu'⟩ := o2 i hi
                exact ⟨u', e, hu'.ext (Ext.alloc _ _)⟩
              clear o1 o2 o3 hown' hgrow bM5 hy5 bV5 hne
              go_wp2
              go_roundw
              case rel => exact ⟨k + 1, by omega, by go_num, hX6, bM6, R⟩
              case measure => simp [intOf]; omega
    · have hke : k = m.rules.length := by omega
      have HK := Lib.hid hke
      clear hke hpl
      go_wp2
      go_ret
      exact ⟨_, rfl, by rw [← HK.out]; exact ho, hX⟩
end Go.Proofs.YtmffnlpndgdcjaaGreatDoor
