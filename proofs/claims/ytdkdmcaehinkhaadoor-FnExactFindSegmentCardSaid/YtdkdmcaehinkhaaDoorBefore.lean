/- Contract of the program's node before a node. The node has from 3 to 11 numbers, the place is in range, the move is at most one. -/
import Derived.Test.YtdkdmcaehinkhaaDoorNode
import Derived.Test.YtdkdmcaehinkhaaDoorMix
namespace Go.Proofs.YtdkdmcaehinkhaaDoor
open Go Go.RowKit Go.Proofs
set_option maxHeartbeats 400000
def BeforeRes (B : Nat) (w : World) (o : Option (List Int)) (e : Ending) (w' : World) : Prop :=
  ∃ u ok, e = .returned (.tuple #[u, .bool ok]) ∧ ok = o.isSome ∧ (∀ y, o = some y → OwnInts B w' u y) ∧ (∃ A n c, u = .slice A n c) ∧ Ext w w'
theorem beforeRes_none {B : Nat} {w w' : World} {o : Option (List Int)} {A : Option Addr} {n c : Nat} (ho : o = none) (hx : Ext w w') : BeforeRes B w o (.returned (.tuple #[.slice A n c, .bool false])) w' :=
  ⟨_, false, rfl, (by rw [ho]; rfl), (fun y hy => by rw [ho] at hy; cases hy), ⟨_, _, _, rfl⟩, hx⟩
theorem beforeRes_some {B : Nat} {w w' : World} {o : Option (List Int)} {y : List Int} {A : Option Addr} {n c : Nat} (ho : o = some y) (hu : OwnInts B w' (.slice A n c) y) (hx : Ext w w') : BeforeRes B w o (.returned (.tuple #[.slice A n c, .bool true])) w' :=
  ⟨_, true, rfl, (by rw [ho]; rfl), (fun z hz => by rw [ho] at hz; injection hz with hz; subst hz; exact hu), ⟨_, _, _, rfl⟩, hx⟩
set_option maxHeartbeats 4000000 in
theorem segmentBefore_c (v : Value) (x : List Int) (p a : Int) (r : RuleD) (w : World) (h : Ints w v x) (hl : 3 ≤ x.length) (hl' : x.length ≤ 11) (hx0 : -1 ≤ x.getD 0 0) (hx0' : x.getD 0 0 ≤ (x.length : Int) - 2) (hm : -1 ≤ r.m) (hm' : r.m ≤ 1) :
    Calls Tryd.prog 62 #[v, .int .i64 p, .int .i64 a, .agg #[.int .i64 r.w, .int .i64 r.m, .int .i64 r.n]] w (BeforeRes w.heap.size w (before x p a r)) := by
  have hW := fun H y e1 e2 => beforeWays x p a r (x.getD 0 0) (x.getD 1 0) H ((x.length : Int) - 2) y rfl rfl e1 rfl e2
  obtain ⟨w1, bk, e1, e2, hx, _, _, c0, c1, c2⟩ := box3 w (.int .i64 r.w) (.int .i64 r.m) (.int .i64 r.n) 79
  obtain ⟨A, c, rfl, h1, h2⟩ := h.form
  obtain ⟨b, off, rfl, hc⟩ := h.at (k := 0) (by omega)
  have hg : ∀ j, j < x.length → w.cell? ⟨b, off + j, none⟩ = some (.int .i64 (x.getD j 0)) := fun j hj => by
    rw [hc j hj, List.getD_eq_getElem?_getD, List.getElem?_eq_getElem hj]; rfl
  have k0 := hx.cell (hg 0 (by omega))
  have k1 := hx.cell (hg 1 (by omega))
  have hi1 := h.ext hx
  have HW := Lib.hid hW
  have HG := Lib.hid hg
  have E1 := Lib.hid e1
  have E2 := Lib.hid e2
  clear hc hW hg e1 e2
  generalize hX0 : x.getD 0 0 = x0 at *
  generalize hX1 : x.getD 1 0 = x1 at *
  clear hX0 hX1
  have hln1 : (1 : Int) < (x.length : Int) := by omega
  have hln0 : (0 : Int) < (x.length : Int) := by omega
  simp only [Nat.add_zero] at k0
  go_enter Tryd.func62, Tryd.ntmps62
  go_wp2_with fail
  rw [E1.out, E2.out]
  refine (sizeInt_c _ x _ hi1).mono ?_
  rintro e w' ⟨rfl, rfl⟩
  have d0 := cellR k0
  have d1 := cellR k1
  have f0 := cellR c0
  have f1 := cellR c1
  have f2 := cellR c2
  go_wp2
  refine wp_region_ext (by kernel_rfl) (by kernel_rfl) ?_
  repeat (go_big_quiet_step (fail))
  refine wpQuiet_nil ?_
  intro w2 hx2
  generalize hH : x0 - r.m = H at *
  have hH1 : -2 ≤ H := by omega
  have hH2 : H ≤ 10 := by omega
  have hWW := HW.out H _ rfl rfl
  have hX := hx.trans hx2
  have k0 := hx2.cell k0
  have k1 := hx2.cell k1
  have c0 := hx2.cell c0
  have c1 := hx2.cell c1
  have c2 := hx2.cell c2
  have hi2 := hi1.ext hx2
  have hyc : ∀ k : Nat, k + 2 < x.length → w2.cell? ⟨b, off + (2 + k), none⟩ = some (.int .i64 (x.getD (2 + k) 0)) := fun k hk => hX.cell (HG.out (2 + k) (by omega))
  have HY := Lib.hid hyc
  clear hH HW HG d0 d1 f0 f1 f2 hi1 hx2 hx hyc E1 E2
  have d1 := cellR k1
  have f2 := cellR c2
  rcases hWW with ⟨q1, q2, q3⟩ | ⟨q1, qq⟩
  · have Q3 := Lib.hid q3
    have q1' : decide (0 ≤ x1) = true := by simp [q1]
    clear q3
    go_wp2
    refine wp_region_ext (by kernel_rfl) (by kernel_rfl) ?_
    repeat (go_big_quiet_step (fail))
    refine wpQuiet_nil ?_
    intro w3 hx3
    go_wp2
    go_ret2
    exact beforeRes_none Q3.out (hX.trans hx3)
  rcases qq with ⟨q2, q3⟩ | ⟨q2, q3, q4⟩ | ⟨q2, q3, q4⟩ | ⟨q2, q3, q4, q5⟩ | ⟨q2, q3, q4, q5, q6⟩
  · have Q3 := Lib.hid q3
    have q2' : decide (H < -1) = true := by simp [q2]
    clear q3
    rcases q1 with ⟨q1, q1b⟩ | q1
    · have q1' : decide (0 ≤ x1) = true := by simp [q1]
      go_wp2
      refine wp_region_ext (by kernel_rfl) (by kernel_rfl) ?_
      repeat (go_big_quiet_step (fail))
      refine wpQuiet_nil ?_
      intro w3 hx3
      go_wp2
      go_ret2
      exact beforeRes_none Q3.out (hX.trans hx3)
    · have q1' : decide (0 ≤ x1) = false := by simp; omega
      go_wp2
      refine wp_region_ext (by kernel_rfl) (by kernel_rfl) ?_
      repeat (go_big_quiet_step (fail))
      refine wpQuiet_nil ?_
      intro w3 hx3
      go_wp2
      go_ret2
      exact beforeRes_none Q3.out (hX.trans hx3)
  · have Q3 := Lib.hid q4
    have q2' : decide (H < -1) = false := by simp; omega
    have q3' : decide ((x.length : Int) - 2 < H) = true := by simp; omega
    clear q4
    rcases q1 with ⟨q1, q1b⟩ | q1
    · have q1' : decide (0 ≤ x1) = true := by simp [q1]
      go_wp2
      refine wp_region_ext (by kernel_rfl) (by kernel_rfl) ?_
      repeat (go_big_quiet_step (fail))
      refine wpQuiet_nil ?_
      intro w3 hx3
      go_wp2
      go_ret2
      exact beforeRes_none Q3.out (hX.trans hx3)
    · have q1' : decide (0 ≤ x1) = false := by simp; omega
      go_wp2
      refine wp_region_ext (by kernel_rfl) (by kernel_rfl) ?_
      repeat (go_big_quiet_step (fail))
      refine wpQuiet_nil ?_
      intro w3 hx3
      go_wp2
      go_ret2
      exact beforeRes_none Q3.out (hX.trans hx3)
  · have q2' : decide (H < -1) = false := by simp at q3; simp; omega
    have q3' : decide ((x.length : Int) - 2 < H) = false := by simp; omega
    have hHlo : -1 ≤ H := by simp at q3; omega
    have Q3 := Lib.hid q4
    clear q4
    rcases q1 with ⟨q1, q1b⟩ | q1
    · have q1' : decide (0 ≤ x1) = true := by simp [q1]
      go_wp2
      refine wp_region_ext (by kernel_rfl) (by kernel_rfl) ?_
      repeat (go_big_quiet_step (fail))
      refine wpQuiet_nil ?_
      intro w3 hx3
      have hX := hX.trans hx3
      have k1 := hx3.cell k1
      have c0 := hx3.cell c0
      have hi3 := hi2.ext hx3
      have HY := Lib.hid (fun (k : Nat) (hk : k + 2 < x.length) => hx3.cell (HY.out k hk))
      clear d1 f2
      go_wp2_with fail
      set_option maxRecDepth 20000 in
      go_region_held3 (fun w' => w'.cell? ⟨b, off + 1, none⟩ = some (.int .i64 x1)) (first | go_keep | exact hx4.cell ((Ext.drew _).cell k1)) (first | (go_at_call 76; ((with_reducible refine (segmentNode_c _ x H (-1) 0 _ (hi3.ext (Ext.drew _)) hl (by omega) (by omega) (by omega)).mono ?_)); rintro e w4 ⟨u4, rfl, hu4, hx4⟩; obtain ⟨A4, c4, rfl, _, _⟩ := hu4.ints.form))
      have hX4 := (hX.trans (Ext.drew _)).trans hx4
      have hu5 := hu4.base (b' := w.heap.size) hX.size
      go_wp2
      go_ret2
      exact beforeRes_some (by rw [Q3.out, if_pos q1]) (by simpa using hu5) hX4
    · have q1' : decide (0 ≤ x1) = false := by simp; omega
      go_wp2
      refine wp_region_ext (by kernel_rfl) (by kernel_rfl) ?_
      repeat (go_big_quiet_step (fail))
      refine wpQuiet_nil ?_
      intro w3 hx3
      have hX := hX.trans hx3
      have k1 := hx3.cell k1
      have c0 := hx3.cell c0
      have hi3 := hi2.ext hx3
      have HY := Lib.hid (fun (k : Nat) (hk : k + 2 < x.length) => hx3.cell (HY.out k hk))
      clear d1 f2
      go_wp2_with fail
      set_option maxRecDepth 20000 in
      go_region_held3 (fun w' => w'.cell? ⟨b, off + 1, none⟩ = some (.int .i64 x1)) (first | go_keep | exact hx4.cell ((Ext.drew _).cell k1)) (first | (go_at_call 76; ((with_reducible refine (segmentNode_c _ x H (-1) 0 _ (hi3.ext (Ext.drew _)) hl (by omega) (by omega) (by omega)).mono ?_)); rintro e w4 ⟨u4, rfl, hu4, hx4⟩; obtain ⟨A4, c4, rfl, _, _⟩ := hu4.ints.form))
      have hX4 := (hX.trans (Ext.drew _)).trans hx4
      have hu5 := hu4.base (b' := w.heap.size) hX.size
      go_wp2
      go_ret2
      exact beforeRes_none (by rw [Q3.out, if_neg (by omega)]) hX4
  · have q2' : decide (H < -1) = false := by simp; omega
    have q3' : decide ((x.length : Int) - 2 < H) = false := by simp at q4; simp; omega
    have hHlo : -1 ≤ H := q2
    have Q3 := Lib.hid q5
    clear q5
    rcases q1 with ⟨q1, q1b⟩ | q1
    · have q1' : decide (0 ≤ x1) = true := by simp [q1]
      go_wp2
      refine wp_region_ext (by kernel_rfl) (by kernel_rfl) ?_
      repeat (go_big_quiet_step (fail))
      refine wpQuiet_nil ?_
      intro w3 hx3
      have hX := hX.trans hx3
      have k1 := hx3.cell k1
      have c0 := hx3.cell c0
      have hi3 := hi2.ext hx3
      have HY := Lib.hid (fun (k : Nat) (hk : k + 2 < x.length) => hx3.cell (HY.out k hk))
      clear d1 f2
      go_wp2_with fail
      set_option maxRecDepth 20000 in
      go_region_held3 (fun w' => w'.cell? ⟨b, off + 1, none⟩ = some (.int .i64 x1)) (first | go_keep | exact hx4.cell ((Ext.drew _).cell k1)) (first | (go_at_call 76; ((with_reducible refine (segmentNode_c _ x H (-1) 0 _ (hi3.ext (Ext.drew _)) hl (by omega) (by omega) (by omega)).mono ?_)); rintro e w4 ⟨u4, rfl, hu4, hx4⟩; obtain ⟨A4, c4, rfl, _, _⟩ := hu4.ints.form))
      have hX4 := (hX.trans (Ext.drew _)).trans hx4
      have hu5 := hu4.base (b' := w.heap.size) hX.size
      go_wp2
      go_ret2
      exact beforeRes_some (by rw [Q3.out, if_pos q1]) (by simpa using hu5) hX4
    · have q1' : decide (0 ≤ x1) = false := by simp; omega
      go_wp2
      refine wp_region_ext (by kernel_rfl) (by kernel_rfl) ?_
      repeat (go_big_quiet_step (fail))
      refine wpQuiet_nil ?_
      intro w3 hx3
      have hX := hX.trans hx3
      have k1 := hx3.cell k1
      have c0 := hx3.cell c0
      have hi3 := hi2.ext hx3
      have HY := Lib.hid (fun (k : Nat) (hk : k + 2 < x.length) => hx3.cell (HY.out k hk))
      clear d1 f2
      go_wp2_with fail
      set_option maxRecDepth 20000 in
      go_region_held3 (fun w' => w'.cell? ⟨b, off + 1, none⟩ = some (.int .i64 x1)) (first | go_keep | exact hx4.cell ((Ext.drew _).cell k1)) (first | (go_at_call 76; ((with_reducible refine (segmentNode_c _ x H (-1) 0 _ (hi3.ext (Ext.drew _)) hl (by omega) (by omega) (by omega)).mono ?_)); rintro e w4 ⟨u4, rfl, hu4, hx4⟩; obtain ⟨A4, c4, rfl, _, _⟩ := hu4.ints.form))
      have hX4 := (hX.trans (Ext.drew _)).trans hx4
      have hu5 := hu4.base (b' := w.heap.size) hX.size
      go_wp2
      go_ret2
      exact beforeRes_none (by rw [Q3.out, if_neg (by omega)]) hX4
  · have q2' : decide (H < -1) = false := by simp; omega
    have q3' : decide ((x.length : Int) - 2 < H) = false := by simp; omega
    obtain ⟨k, rfl⟩ := Int.eq_ofNat_of_zero_le q2
    have ek : (2 + (k : Int)).toNat = 2 + k := by omega
    rw [ek] at q6
    have hkl : k + 2 < x.length := by omega
    have hwr : IntKind.i64.wrap (2 + (k : Int)) = 2 + (k : Int) := IntWalk.i64_in _ (by omega)
    have hb1 : (0 : Int) ≤ 2 + (k : Int) := by omega
    have hb2 : 2 + (k : Int) < (x.length : Int) := by omega
    generalize hY : x.getD (2 + k) 0 = y at *
    rcases q6 with ⟨r1, r2⟩ | ⟨r1, r2, r3⟩ | ⟨r1, r2, r3⟩
    · have Q3 := Lib.hid r2
      clear r2
      rcases q1 with ⟨q1, q1b⟩ | q1
      · have q1' : decide (0 ≤ x1) = true := by simp [q1]
        go_wp2
        refine wp_region_ext (by kernel_rfl) (by kernel_rfl) ?_
        repeat (go_big_quiet_step (fail))
        refine wpQuiet_nil ?_
        intro w3 hx3
        have hX := hX.trans hx3
        have c0 := hx3.cell c0
        have hi3 := hi2.ext hx3
        have ky := hx3.cell (HY.out k hkl)
        rw [hY] at ky
        clear d1 f2
        have dy := cellR ky
        have d0 := cellR c0
        go_wp2_with fail
        refine wp_region_mix 4 _ (fun u w' => OwnInts w.heap.size w' u (segNode x k p a)) (by kernel_rfl) (by kernel_rfl) rfl rfl rfl ?_
        simp only [List.take_succ_cons, List.take_zero, List.drop_succ_cons, List.drop_zero]
        repeat (go_big_quiet_step (fail))
        refine wpQuiet_nil ⟨⟨rfl, fun w4 hx4 => ?_⟩, ?_⟩
        · unfold stirAt
          go_simp
          simp only [stirUpon]
          refine (segmentNode_c _ x k p a _ (hi3.ext hx4) hl (by omega) (by omega) (by omega)).mono ?_
          rintro e w5 ⟨u5, rfl, hu5, hx5⟩
          exact ⟨u5, rfl, hx5, hu5.base (hX.trans hx4).size⟩
        · rintro u ⟨w4, hx4, hu4⟩
          obtain ⟨A4, c4, rfl, _, _⟩ := hu4.ints.form
          clear hx4 hu4
          simp only [Act.put, List.setIfInBounds_toArray, List.set_cons_succ, List.set_cons_zero]
          repeat (go_big_quiet_step (fail))
          refine wpQuiet_nil ?_
          intro w5 hx5 hu5
          go_wp2
          go_ret2
          exact beforeRes_some Q3.out (by simpa using hu5) (hX.trans hx5)
      · have q1' : decide (0 ≤ x1) = false := by simp; omega
        go_wp2
        refine wp_region_ext (by kernel_rfl) (by kernel_rfl) ?_
        repeat (go_big_quiet_step (fail))
        refine wpQuiet_nil ?_
        intro w3 hx3
        have hX := hX.trans hx3
        have c0 := hx3.cell c0
        have hi3 := hi2.ext hx3
        have ky := hx3.cell (HY.out k hkl)
        rw [hY] at ky
        clear d1 f2
        have dy := cellR ky
        have d0 := cellR c0
        go_wp2_with fail
        refine wp_region_mix 4 _ (fun u w' => OwnInts w.heap.size w' u (segNode x k p a)) (by kernel_rfl) (by kernel_rfl) rfl rfl rfl ?_
        simp only [List.take_succ_cons, List.take_zero, List.drop_succ_cons, List.drop_zero]
        repeat (go_big_quiet_step (fail))
        refine wpQuiet_nil ⟨⟨rfl, fun w4 hx4 => ?_⟩, ?_⟩
        · unfold stirAt
          go_simp
          simp only [stirUpon]
          refine (segmentNode_c _ x k p a _ (hi3.ext hx4) hl (by omega) (by omega) (by omega)).mono ?_
          rintro e w5 ⟨u5, rfl, hu5, hx5⟩
          exact ⟨u5, rfl, hx5, hu5.base (hX.trans hx4).size⟩
        · rintro u ⟨w4, hx4, hu4⟩
          obtain ⟨A4, c4, rfl, _, _⟩ := hu4.ints.form
          clear hx4 hu4
          simp only [Act.put, List.setIfInBounds_toArray, List.set_cons_succ, List.set_cons_zero]
          repeat (go_big_quiet_step (fail))
          refine wpQuiet_nil ?_
          intro w5 hx5 hu5
          go_wp2
          go_ret2
          exact beforeRes_some Q3.out (by simpa using hu5) (hX.trans hx5)
    · have Q3 := Lib.hid r3
      clear r3
      rcases q1 with ⟨q1, q1b⟩ | q1
      · have q1' : decide (0 ≤ x1) = true := by simp [q1]
        go_wp2
        refine wp_region_ext (by kernel_rfl) (by kernel_rfl) ?_
        repeat (go_big_quiet_step (fail))
        refine wpQuiet_nil ?_
        intro w3 hx3
        have hX := hX.trans hx3
        have c0 := hx3.cell c0
        have hi3 := hi2.ext hx3
        have ky := hx3.cell (HY.out k hkl)
        rw [hY] at ky
        clear d1 f2
        have dy := cellR ky
        have d0 := cellR c0
        go_wp2_with fail
        refine wp_region_mix 4 _ (fun u w' => OwnInts w.heap.size w' u (segNode x k p a)) (by kernel_rfl) (by kernel_rfl) rfl rfl rfl ?_
        simp only [List.take_succ_cons, List.take_zero, List.drop_succ_cons, List.drop_zero]
        repeat (go_big_quiet_step (fail))
        refine wpQuiet_nil ⟨⟨rfl, fun w4 hx4 => ?_⟩, ?_⟩
        · unfold stirAt
          go_simp
          simp only [stirUpon]
          refine (segmentNode_c _ x k p a _ (hi3.ext hx4) hl (by omega) (by omega) (by omega)).mono ?_
          rintro e w5 ⟨u5, rfl, hu5, hx5⟩
          exact ⟨u5, rfl, hx5, hu5.base (hX.trans hx4).size⟩
        · rintro u ⟨w4, hx4, hu4⟩
          obtain ⟨A4, c4, rfl, _, _⟩ := hu4.ints.form
          clear hx4 hu4
          simp only [Act.put, List.setIfInBounds_toArray, List.set_cons_succ, List.set_cons_zero]
          repeat (go_big_quiet_step (fail))
          refine wpQuiet_nil ?_
          intro w5 hx5 hu5
          go_wp2
          go_ret2
          exact beforeRes_some Q3.out (by simpa using hu5) (hX.trans hx5)
      · have q1' : decide (0 ≤ x1) = false := by simp; omega
        go_wp2
        refine wp_region_ext (by kernel_rfl) (by kernel_rfl) ?_
        repeat (go_big_quiet_step (fail))
        refine wpQuiet_nil ?_
        intro w3 hx3
        have hX := hX.trans hx3
        have c0 := hx3.cell c0
        have hi3 := hi2.ext hx3
        have ky := hx3.cell (HY.out k hkl)
        rw [hY] at ky
        clear d1 f2
        have dy := cellR ky
        have d0 := cellR c0
        go_wp2_with fail
        refine wp_region_mix 4 _ (fun u w' => OwnInts w.heap.size w' u (segNode x k p a)) (by kernel_rfl) (by kernel_rfl) rfl rfl rfl ?_
        simp only [List.take_succ_cons, List.take_zero, List.drop_succ_cons, List.drop_zero]
        repeat (go_big_quiet_step (fail))
        refine wpQuiet_nil ⟨⟨rfl, fun w4 hx4 => ?_⟩, ?_⟩
        · unfold stirAt
          go_simp
          simp only [stirUpon]
          refine (segmentNode_c _ x k p a _ (hi3.ext hx4) hl (by omega) (by omega) (by omega)).mono ?_
          rintro e w5 ⟨u5, rfl, hu5, hx5⟩
          exact ⟨u5, rfl, hx5, hu5.base (hX.trans hx4).size⟩
        · rintro u ⟨w4, hx4, hu4⟩
          obtain ⟨A4, c4, rfl, _, _⟩ := hu4.ints.form
          clear hx4 hu4
          simp only [Act.put, List.setIfInBounds_toArray, List.set_cons_succ, List.set_cons_zero]
          repeat (go_big_quiet_step (fail))
          refine wpQuiet_nil ?_
          intro w5 hx5 hu5
          go_wp2
          go_ret2
          exact beforeRes_some Q3.out (by simpa using hu5) (hX.trans hx5)
    · have Q3 := Lib.hid r3
      clear r3
      rcases q1 with ⟨q1, q1b⟩ | q1
      · have q1' : decide (0 ≤ x1) = true := by simp [q1]
        go_wp2
        refine wp_region_ext (by kernel_rfl) (by kernel_rfl) ?_
        repeat (go_big_quiet_step (fail))
        refine wpQuiet_nil ?_
        intro w3 hx3
        have hX := hX.trans hx3
        have c0 := hx3.cell c0
        have hi3 := hi2.ext hx3
        have ky := hx3.cell (HY.out k hkl)
        rw [hY] at ky
        clear d1 f2
        have dy := cellR ky
        have d0 := cellR c0
        go_wp2_with fail
        refine wp_region_mix 4 _ (fun u w' => OwnInts w.heap.size w' u (segNode x k p a)) (by kernel_rfl) (by kernel_rfl) rfl rfl rfl ?_
        simp only [List.take_succ_cons, List.take_zero, List.drop_succ_cons, List.drop_zero]
        repeat (go_big_quiet_step (fail))
        refine wpQuiet_nil ⟨⟨rfl, fun w4 hx4 => ?_⟩, ?_⟩
        · unfold stirAt
          go_simp
          simp only [stirUpon]
          refine (segmentNode_c _ x k p a _ (hi3.ext hx4) hl (by omega) (by omega) (by omega)).mono ?_
          rintro e w5 ⟨u5, rfl, hu5, hx5⟩
          exact ⟨u5, rfl, hx5, hu5.base (hX.trans hx4).size⟩
        · rintro u ⟨w4, hx4, hu4⟩
          obtain ⟨A4, c4, rfl, _, _⟩ := hu4.ints.form
          clear hx4 hu4
          simp only [Act.put, List.setIfInBounds_toArray, List.set_cons_succ, List.set_cons_zero]
          repeat (go_big_quiet_step (fail))
          refine wpQuiet_nil ?_
          intro w5 hx5 hu5
          go_wp2
          go_ret2
          exact beforeRes_none Q3.out (hX.trans hx5)
      · have q1' : decide (0 ≤ x1) = false := by simp; omega
        go_wp2
        refine wp_region_ext (by kernel_rfl) (by kernel_rfl) ?_
        repeat (go_big_quiet_step (fail))
        refine wpQuiet_nil ?_
        intro w3 hx3
        have hX := hX.trans hx3
        have c0 := hx3.cell c0
        have hi3 := hi2.ext hx3
        have ky := hx3.cell (HY.out k hkl)
        rw [hY] at ky
        clear d1 f2
        have dy := cellR ky
        have d0 := cellR c0
        go_wp2_with fail
        refine wp_region_mix 4 _ (fun u w' => OwnInts w.heap.size w' u (segNode x k p a)) (by kernel_rfl) (by kernel_rfl) rfl rfl rfl ?_
        simp only [List.take_succ_cons, List.take_zero, List.drop_succ_cons, List.drop_zero]
        repeat (go_big_quiet_step (fail))
        refine wpQuiet_nil ⟨⟨rfl, fun w4 hx4 => ?_⟩, ?_⟩
        · unfold stirAt
          go_simp
          simp only [stirUpon]
          refine (segmentNode_c _ x k p a _ (hi3.ext hx4) hl (by omega) (by omega) (by omega)).mono ?_
          rintro e w5 ⟨u5, rfl, hu5, hx5⟩
          exact ⟨u5, rfl, hx5, hu5.base (hX.trans hx4).size⟩
        · rintro u ⟨w4, hx4, hu4⟩
          obtain ⟨A4, c4, rfl, _, _⟩ := hu4.ints.form
          clear hx4 hu4
          simp only [Act.put, List.setIfInBounds_toArray, List.set_cons_succ, List.set_cons_zero]
          repeat (go_big_quiet_step (fail))
          refine wpQuiet_nil ?_
          intro w5 hx5 hu5
          go_wp2
          go_ret2
          exact beforeRes_none Q3.out (hX.trans hx5)
end Go.Proofs.YtdkdmcaehinkhaaDoor
