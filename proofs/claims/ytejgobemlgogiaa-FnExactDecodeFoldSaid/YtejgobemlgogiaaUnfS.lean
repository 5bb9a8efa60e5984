/- Contract of the reference's decoding of a tape that is folded on one half. The tape is short. -/
import Derived.Test.YtejgobemlgogiaaListS
import Derived.Test.YtejgobemlgogiaaUnfP
set_option linter.unusedSimpArgs false
set_option linter.unusedVariables false
namespace Go.Proofs.Ytejgobemlgogiaa
open Go Go.RowKit Go.Proofs
set_option maxHeartbeats 400000
theorem l13CellZ_c (v : Value) (zs : List Int) (z : Int) (w : World) (h : Ints w v zs) (h0 : 0 ≤ z) :
    Calls Try.prog 39 #[v, .int .i64 z] w fun e w' => e = .returned (.int .i64 (zs.getD z.toNat 0)) ∧ w = w' := by
  obtain ⟨k, rfl⟩ : ∃ k : Nat, z = k := ⟨z.toNat, by omega⟩
  exact l13Cell_c v zs k w h
theorem pl_even (k : Nat) (h : ((k : Int) % 2 == 0) = true) : plZ k = -((k : Int) / 2) := by
  unfold plZ
  simp only [beq_iff_eq] at h
  rw [if_pos (by omega)]
theorem pl_odd (k : Nat) (h : ((k : Int) % 2 == 0) = false) : plZ k = ((k : Int) - 1) / 2 := by
  unfold plZ
  simp only [beq_eq_false_iff_ne] at h
  rw [if_neg (by omega)]
theorem idx_neg (D : List Int) (z : Int) (h : z < 0) : symZ D z = D.getD (-2 * z - 1).toNat 0 := by
  unfold symZ idxZ
  rw [if_pos h]
  congr 1
  omega
theorem idx_nonneg (D : List Int) (z : Int) (h : ¬ z < 0) : symZ D z = D.getD (2 * z).toNat 0 := by
  unfold symZ idxZ
  rw [if_neg h]
  congr 1
  omega
set_option maxRecDepth 20000 in
set_option maxHeartbeats 2000000 in
theorem l13Unfold_c (v : Value) (D : List Int) (k : Nat) (q : Int) (w : World) (h : Ints w v D) (hn : D.length ≤ 10000) (k1 : 1 ≤ k) (k2 : k ≤ D.length + 1) :
    Calls Try.prog 23 #[v, .int .i64 k, .int .i64 q] w fun e w' => ∃ lv rv, e = .returned (.agg #[.int .i64 q, lv, rv]) ∧ OwnInts w.heap.size w' lv (unfL D (plZ k)) ∧ OwnInts w.heap.size w' rv (unfR D (plZ k)) ∧ Ext w w' := by
  obtain ⟨A, c, rfl, h2, h2'⟩ := h.form
  obtain ⟨i0, hi, hz0, hz1, hz2⟩ := info_parts intInfo
  obtain ⟨W, hW⟩ : ∃ W, W = w.alloc (.cells #[.int .i64 0, .slice none 0 0, .slice none 0 0] 30) := ⟨_, rfl⟩
  have hXW : Ext w W := by rw [hW]; exact Ext.alloc _ _
  have bO : Blk W w.heap.size 30 #[.int .i64 0, .slice none 0 0, .slice none 0 0] := by rw [hW]; exact Blk.new _ _ _ _ rfl
  have hown0 : (W.alloc (.cells #[] 2)).ownsRow W.heap.size 2 1 (.slice (some ⟨W.heap.size, 0, none⟩) 0 0) 0 [] :=
    World.ownsRow_made (base := W.heap.size) (e := 2) (size := 1) W #[] 0 (Nat.le_refl _) (by unfold maxLen; omega) (by simp)
  have hpl := pl_le k k1
  obtain ⟨most, hm⟩ : ∃ most, most = D.length / 2 + 2 := ⟨_, rfl⟩
  have hmc : (D.length : Int) / 2 + 2 = most := by omega
  have hm1 : most ≤ 5002 := by omega
  have hm2 : (D.length : Int) + 1 ≤ 2 * most := by omega
  have HM := Lib.hid hm
  have HMC := Lib.hid hmc
  have HL := Lib.hid hpl
  clear hm
  have hk2 : ((k : Int) / 2) ≤ 10000 := by omega
  have hWs : W.heap.size = w.heap.size + 1 := by rw [hW]; simp
  have HWS := Lib.hid hWs
  clear hWs
  obtain ⟨L0, hL0⟩ : ∃ L, unfL D (plZ k) = L := ⟨_, rfl⟩
  obtain ⟨R0, hR0⟩ : ∃ L, unfR D (plZ k) = L := ⟨_, rfl⟩
  rw [hL0, hR0]
  have HL0 := Lib.hid hL0
  have HR0 := Lib.hid hR0
  clear hL0 hR0
  cases hpe : ((k : Int) % 2 == 0)
  focus
    have HP := Lib.hid (pl_odd k hpe)
    go_enter Try.func23, Try.ntmps23
    go_wp2
    generalize ((k : Int) - 1) / 2 = x at *
  rotate_left
  focus
    have HP := Lib.hid (pl_even k hpe)
    go_enter Try.func23, Try.ntmps23
    go_wp2
    generalize -((k : Int) / 2) = x at *
  all_goals
    clear hpe
    have hx1 : -10000 ≤ x := by have := HP.out; omega
    have hx2 : x ≤ 10000 := by have := HP.out; omega
    go_loopw [8, 9, 11] (fun u hd n wr => ∃ (j : Nat) (hv : Int), j ≤ 2 * most + 1 ∧ n = .int .i64 ((j : Int) - most) ∧ hd = .int .i64 hv ∧ OwnInts W.heap.size wr u (fnL (fun i => symZ D ((i : Int) - most)) j) ∧ Hid ((plZ k + most < j → hv = plZ k + most)) ∧ Ext W wr) (fun _ _ n _ => (most + 1 - intOf n).toNat)
    case atStart => exact ⟨0, 0, by omega, by simp, rfl, by rw [hW] at hown0 ⊢; simpa [OwnInts, ivs, fnL] using hown0, by unfold Hid; omega, by rw [hW]; exact Ext.alloc _ _⟩
    case round =>
      obtain ⟨j, hv, hj, rfl, rfl, ho, hhd, hx⟩ := hrel
      by_cases hlt : j < 2 * most + 1
      · have HS : Hid (fnL (fun i => symZ D ((i : Int) - most)) (j + 1) = fnL (fun i => symZ D ((i : Int) - most)) j ++ [symZ D ((j : Int) - most)]) := Lib.hid (fnL_succ (fun i => symZ D ((i : Int) - most)) j)
        have hl : (fnL (fun i => symZ D ((i : Int) - most)) j).length = j := fnL_length _ _
        have HN := Lib.hid (idx_neg D ((j : Int) - most))
        have HP' := Lib.hid (idx_nonneg D ((j : Int) - most))
        generalize symZ D ((j : Int) - most) = s at *
        generalize fnL (fun i => symZ D ((i : Int) - most)) j = ys at *
        subst hl
        have hyl : ys.length ≤ 20000 := by omega
        obtain ⟨z, hz⟩ : ∃ z, z = (ys.length : Int) - most := ⟨_, rfl⟩
        have HZ := Lib.hid hz
        rw [← hz] at HN HP' ⊢
        have z1 : -5002 ≤ z := by omega
        have z2 : z ≤ most := by omega
        clear hz
        obtain ⟨Au, cu, rfl, _, _⟩ := ho.ints.form
        have ho1 : wr.ownsRow W.heap.size 2 1 (.slice Au ys.length cu) ys.length (ivs ys) := ho
        have ho' := fun s => ho1.alloc (.cells #[.int .i64 s] 2)
        have hD := h.ext (hXW.trans hx)
        have hs := hx.size
        by_cases hneg : z < 0
        · have hcell : Hid (D.getD (-2 * z - 1).toNat 0 = s) := Lib.hid (HN.out hneg).symm
          have hdd : decide (z < 0) = true := by simp [hneg]
          have hb1 : 0 ≤ -2 * z - 1 := by omega
          by_cases hz : z = x
          · have HZX := Lib.hid hz
            have hzb : (z == x) = true := by simp [hz]
            clear hneg hz
            go_wp2_with fail
            refine (l13CellZ_c _ D _ _ hD (by omega)).mono ?_
            rintro e w' ⟨rfl, rfl⟩
            rw [hcell.out]
            go_wp2_with (at_builtin; refine wpList_append_own_at _ rfl _ _ 25 rfl W.heap.size 2 i0 (.int .i64 0) 1 8 Try.underlying25 hi hz0 hz1 hz2 rfl (by decide) _ _ _ rfl (ho' s) ⟨wr.heap.size, 0, none⟩ 1 1 [.int .i64 s] rfl rfl (cell_one_new _ _ _) ?c2 ?c3 ?c4 ?c5 ?_)
            case c2 => intro u hu; simp at hu; subst hu; rfl
            case c3 => unfold maxLen; omega
            case c4 => omega
            case c5 => simp; omega
            intro v' w4 hown4 hg4 _ hloc
            obtain ⟨A', c', rfl, _, _, _⟩ := (ownsRow_row hown4).form
            have hx4 : Ext W w4 := (hx.trans (Ext.alloc _ _)).grown hg4 (fun k hk => ((ho' s).lt k hk).1)
            go_wp2
            go_roundw
            case rel => exact ⟨ys.length + 1, ys.length, by omega, by have := HZ.out; congr 1; omega, rfl, by rw [HS.out, HWS.out]; simpa [OwnInts, ivs_append, ivs] using hown4, by unfold Hid; intro _; have := HZ.out; have := HP.out; have := HZX.out; omega, hx4⟩
            case measure => simp [intOf]; omega
          · have HZX := Lib.hid hz
            have hzb : (z == x) = false := by simp [hz]
            clear hneg hz
            go_wp2_with fail
            refine (l13CellZ_c _ D _ _ hD (by omega)).mono ?_
            rintro e w' ⟨rfl, rfl⟩
            rw [hcell.out]
            go_wp2_with (at_builtin; refine wpList_append_own_at _ rfl _ _ 25 rfl W.heap.size 2 i0 (.int .i64 0) 1 8 Try.underlying25 hi hz0 hz1 hz2 rfl (by decide) _ _ _ rfl (ho' s) ⟨wr.heap.size, 0, none⟩ 1 1 [.int .i64 s] rfl rfl (cell_one_new _ _ _) ?c2 ?c3 ?c4 ?c5 ?_)
            case c2 => intro u hu; simp at hu; subst hu; rfl
            case c3 => unfold maxLen; omega
            case c4 => omega
            case c5 => simp; omega
            intro v' w4 hown4 hg4 _ hloc
            obtain ⟨A', c', rfl, _, _, _⟩ := (ownsRow_row hown4).form
            have hx4 : Ext W w4 := (hx.trans (Ext.alloc _ _)).grown hg4 (fun k hk => ((ho' s).lt k hk).1)
            go_wp2
            go_roundw
            case rel => exact ⟨ys.length + 1, hv, by omega, by have := HZ.out; congr 1; omega, rfl, by rw [HS.out, HWS.out]; simpa [OwnInts, ivs_append, ivs] using hown4, by unfold Hid; intro _; have := HZ.out; have := HP.out; have := HZX.out; exact hhd.out (by omega), hx4⟩
            case measure => simp [intOf]; omega
        · have hcell : Hid (D.getD (2 * z).toNat 0 = s) := Lib.hid (HP'.out hneg).symm
          have hdd : decide (z < 0) = false := by simp [hneg]
          have hb1 : 0 ≤ 2 * z := by omega
          by_cases hz : z = x
          · have HZX := Lib.hid hz
            have hzb : (z == x) = true := by simp [hz]
            clear hneg hz
            go_wp2_with fail
            refine (l13CellZ_c _ D _ _ hD (by omega)).mono ?_
            rintro e w' ⟨rfl, rfl⟩
            rw [hcell.out]
            go_wp2_with (at_builtin; refine wpList_append_own_at _ rfl _ _ 25 rfl W.heap.size 2 i0 (.int .i64 0) 1 8 Try.underlying25 hi hz0 hz1 hz2 rfl (by decide) _ _ _ rfl (ho' s) ⟨wr.heap.size, 0, none⟩ 1 1 [.int .i64 s] rfl rfl (cell_one_new _ _ _) ?c2 ?c3 ?c4 ?c5 ?_)
            case c2 => intro u hu; simp at hu; subst hu; rfl
            case c3 => unfold maxLen; omega
            case c4 => omega
            case c5 => simp; omega
            intro v' w4 hown4 hg4 _ hloc
            obtain ⟨A', c', rfl, _, _, _⟩ := (ownsRow_row hown4).form
            have hx4 : Ext W w4 := (hx.trans (Ext.alloc _ _)).grown hg4 (fun k hk => ((ho' s).lt k hk).1)
            go_wp2
            go_roundw
            case rel => exact ⟨ys.length + 1, ys.length, by omega, by have := HZ.out; congr 1; omega, rfl, by rw [HS.out, HWS.out]; simpa [OwnInts, ivs_append, ivs] using hown4, by unfold Hid; intro _; have := HZ.out; have := HP.out; have := HZX.out; omega, hx4⟩
            case measure => simp [intOf]; omega
          · have HZX := Lib.hid hz
            have hzb : (z == x) = false := by simp [hz]
            clear hneg hz
            go_wp2_with fail
            refine (l13CellZ_c _ D _ _ hD (by omega)).mono ?_
            rintro e w' ⟨rfl, rfl⟩
            rw [hcell.out]
            go_wp2_with (at_builtin; refine wpList_append_own_at _ rfl _ _ 25 rfl W.heap.size 2 i0 (.int .i64 0) 1 8 Try.underlying25 hi hz0 hz1 hz2 rfl (by decide) _ _ _ rfl (ho' s) ⟨wr.heap.size, 0, none⟩ 1 1 [.int .i64 s] rfl rfl (cell_one_new _ _ _) ?c2 ?c3 ?c4 ?c5 ?_)
            case c2 => intro u hu; simp at hu; subst hu; rfl
            case c3 => unfold maxLen; omega
            case c4 => omega
            case c5 => simp; omega
            intro v' w4 hown4 hg4 _ hloc
            obtain ⟨A', c', rfl, _, _, _⟩ := (ownsRow_row hown4).form
            have hx4 : Ext W w4 := (hx.trans (Ext.alloc _ _)).grown hg4 (fun k hk => ((ho' s).lt k hk).1)
            go_wp2
            go_roundw
            case rel => exact ⟨ys.length + 1, hv, by omega, by have := HZ.out; congr 1; omega, rfl, by rw [HS.out, HWS.out]; simpa [OwnInts, ivs_append, ivs] using hown4, by unfold Hid; intro _; have := HZ.out; have := HP.out; have := HZX.out; exact hhd.out (by omega), hx4⟩
            case measure => simp [intOf]; omega
      · have hje : j = 2 * most + 1 := by omega
        subst hje
        have HV : hv = plZ k + most := by have := HL.out; exact hhd.out (by omega)
        obtain ⟨hd, rfl⟩ : ∃ hd : Nat, hv = hd := ⟨hv.toNat, by have := HL.out; omega⟩
        have HLL := Lib.hid (line_left D most k hd k1 k2 HM.out HV)
        have HRR := Lib.hid (line_right D most k hd k1 k2 HM.out HV)
        have hl : (lineF D most).length = 2 * most + 1 := fnL_length _ _
        change OwnInts _ _ _ (lineF D most) at ho
        have hdl : hd ≤ 2 * most := by have := HL.out; omega
        clear HV hhd
        generalize lineF D most = ys at *
        have hll : hd < ys.length := by omega
        have hyl : ys.length ≤ 20000 := by omega
        obtain ⟨Au, cu, rfl, hcu, hcu'⟩ := ho.ints.form
        obtain ⟨b, off, rfl, _⟩ := ho.ints.at (k := 0) (by omega)
        have t1 : Ints wr (.slice (some ⟨b, off, none⟩) hd cu) (ys.take hd) := ho.ints.take hd (by omega)
        have t2 : Ints wr (.slice (some ⟨b, off + hd, none⟩) (ys.length - hd) (cu - hd)) (ys.drop hd) := ho.ints.drop hd (by omega)
        have hne : ¬ cu = hd := by omega
        have HY := Lib.hid hl
        clear hl
        have hc1 : hd ≤ cu := by omega
        have hc2 : hd ≤ ys.length := by omega
        have hlt1 : (ys.take hd).length ≤ 1048576 := by simp; omega
        have hlt2 : (ys.drop hd).length ≤ 1048576 := by simp; omega
        have hxd : Ext wr wr.drew := Ext.drew _
        have hsw := hx.size
        generalize (ys.take hd) = ya at *
        generalize (ys.drop hd) = yb at *
        go_wp2
        go_region_law
          (first
            | (go_simp; go_at_call 22; ((with_reducible refine (l03Reverse_c _ ya _ (t1.ext hxd) hlt1).mono ?_)); rintro e w5 ⟨u5, rfl, ho5, hx5⟩; have hlr : ya.reverse.length ≤ 1048576 := by rw [List.length_reverse]; exact hlt1)
            | (go_simp; go_at_call 40; ((with_reducible refine (l05Trim_c _ ya.reverse _ ho5.ints hlr).mono ?_)); rintro e w6 ⟨u6, rfl, ho6, hx6⟩; rw [HLL.out, HL0.out] at ho6; obtain ⟨A6, c6, rfl, _, _⟩ := ho6.ints.form)
            | (go_simp; go_at_call 40; ((with_reducible refine (l05Trim_c _ yb _ (t2.ext (hxd.trans (hx5.trans hx6))) hlt2).mono ?_)); rintro e w7 ⟨u7, rfl, ho7, hx7⟩; rw [HRR.out, HR0.out] at ho7; obtain ⟨A7, c7, rfl, _, _⟩ := ho7.ints.form; have hX7 : Ext W w7 := (((hx.trans hxd).trans hx5).trans hx6).trans hx7; have bO7 := bO.ext hX7; have z0 := bO7.cell; have z1 := bO7.frozen)
            | (trace_state; fail))
        go_wp2
        have hw5 := hx5.size
        have hw6 := hx6.size
        have hws : w.heap.size < W.heap.size := by have := bO.lt; omega
        have hwd : (wr.drew).heap.size = wr.heap.size := rfl
        have o6 := ho6.ext hx7
        have f6 : ∀ g, (Value.slice A6 L0.length c6).ownBlock = some g → g ≠ w.heap.size := fun g hg => by have := (o6.lt g hg).1; omega
        have f7 : ∀ g, (Value.slice A7 R0.length c7).ownBlock = some g → g ≠ w.heap.size := fun g hg => by have := (ho7.lt g hg).1; omega
        refine bodyPost_ret (v := .agg #[.int .i64 q, .slice A6 L0.length c6, .slice A7 R0.length c7]) (by simp [results, Try.results23, go_sem, z0]) rfl ⟨_, _, rfl, ?_, ?_, ?_⟩
        · exact ownsRow_base (ownsRow_far (ownsRow_far (ownsRow_far o6 f6 _) f6 _) f6 _) (by omega)
        · exact ownsRow_base (ownsRow_far (ownsRow_far (ownsRow_far ho7 f7 _) f7 _) f7 _) (by omega)
        · exact (((hXW.trans hX7).setCell (Nat.le_refl _) _).setCell (Nat.le_refl _) _).setCell (Nat.le_refl _) _
end Go.Proofs.Ytejgobemlgogiaa
