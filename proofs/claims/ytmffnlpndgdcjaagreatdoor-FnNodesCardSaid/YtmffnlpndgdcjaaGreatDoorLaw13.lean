/- The walk of the law on the nodes of a machine that is drawn. -/
import Derived.Test.YtmffnlpndgdcjaaGreatDoorRunD
import Derived.Test.YtmffnlpndgdcjaaGreatDoorDraw2
import Derived.Test.YtmffnlpndgdcjaaGreatDoorSrc
import Derived.Test.YtmffnlpndgdcjaaGreatDoorPreds
import Derived.Test.YtmffnlpndgdcjaaGreatDoorAns
namespace Go.Proofs.YtmffnlpndgdcjaaGreatDoor
open Go Go.RowKit Go.Proofs
set_option maxHeartbeats 400000
set_option maxRecDepth 20000 in
set_option maxHeartbeats 4000000 in
theorem law13_c (v v' : Value) (bs bs' : List Int) (w : World) (h : Bytes w v bs) (h' : Bytes w v' bs') (hT : Tab w) :
    Calls Tryz.prog 3 #[v, v'] w fun e w' => e = .returned (.bool true) ∧ Ext w w' := by
  obtain ⟨A, c, rfl, _, _, _⟩ := h.1.form
  obtain ⟨A', c', rfl, _, _, _⟩ := h'.1.form
  go_enter Tryz.func3, Tryz.ntmps3
  go_wp2_with fail
  refine (b10Long_c _ bs w h).mono ?_
  rintro e w' ⟨rfl, rfl⟩
  by_cases l1 : 1048576 < bs.length
  · rw [decide_eq_true l1]
    go_wp2
    go_ret
    exact ⟨rfl, Ext.refl _⟩
  rw [decide_eq_false l1]
  go_wp2_with fail
  refine (b10Long_c _ bs' w h').mono ?_
  rintro e w' ⟨rfl, rfl⟩
  by_cases l2 : 1048576 < bs'.length
  · rw [decide_eq_true l2]
    go_wp2
    go_ret
    exact ⟨rfl, Ext.refl _⟩
  rw [decide_eq_false l2]
  go_wp2_with fail
  refine (B10Decided_c _ bs w h).mono ?_
  rintro e w1 ⟨⟨m, rv, rfl, ho1⟩, hx1⟩
  obtain ⟨Ar, cr, rfl, _, _, _⟩ := (ownsRow_row ho1).form
  obtain ⟨W, hW⟩ : ∃ W, W = w1.alloc (.cells #[.int .i64 m.sy, .int .i64 m.st, .slice Ar m.rules.length cr] 26) := ⟨_, rfl⟩
  have hXW : Ext w1 W := by rw [hW]; exact Ext.alloc _ _
  have bM : Blk W w1.heap.size 26 #[.int .i64 m.sy, .int .i64 m.st, .slice Ar m.rules.length cr] := by rw [hW]; exact Blk.new _ _ _ _ rfl
  have hX := hx1.trans hXW
  have hMr : Rules W (.slice Ar m.rules.length cr) m.rules := OwnRules.rules (OwnRules.ext ho1 hXW)
  go_wp2_with fail
  rw [← hW]
  clear hW
  refine (b10At_c _ bs' 0 4 W (h'.ext hX) (by omega) (by omega)).mono ?_
  rintro e w' ⟨⟨z, rfl, z0, _, z2⟩, rfl⟩
  have z3 := z2 (by omega)
  obtain ⟨zn, rfl⟩ : ∃ k : Nat, z = (k : Int) := ⟨z.toNat, by omega⟩
  clear z2
  have c0 := bM.cell 0
  have c1 := bM.cell 1
  have c2 := bM.cell 2
  simp only [List.getElem?_toArray, List.getElem?_cons_zero, List.getElem?_cons_succ] at c0 c1 c2
  go_wp2_with fail
  refine (SegmentNodes_c _ m (1 + (zn : Int)) W ⟨_, rfl, hMr⟩ (hT.below hT.low hX)).mono ?_
  rintro e w2 hres
  obtain ⟨g2, xs, sb, sc, rfl, hans, hg2, hx2⟩ := hres.ans
  have HANS := Lib.hid hans
  clear hres hans c0 c1 c2
  have hX2 := hX.trans hx2
  have b2 := bM.ext hx2
  have c0 := b2.cell 0
  have c1 := b2.cell 1
  have c2 := b2.cell 2
  simp only [List.getElem?_toArray, List.getElem?_cons_zero, List.getElem?_cons_succ] at c0 c1 c2
  by_cases hsc : ¬ sc = 0
  · have hs1 : (sc != 0) = true := by simp [hsc]
    have hs2 : (sc == sc) = true := by simp
    clear hsc
    go_wp2_with fail
    refine (specNodes_c _ m (1 + (zn : Int)) w2 ⟨_, rfl, hMr.ext hx2⟩).mono ?_
    rintro e w3 hres
    obtain ⟨g3, xs3, sb3, sc3, rfl, hans3, hg3, hx3⟩ := hres.ans
    obtain ⟨rfl, rfl, rfl⟩ := hans3.unique HANS.out
    clear hres hans3 c0 c1 c2
    go_wp2
    go_ret
    exact ⟨by simp, hX2.trans hx3⟩
  obtain rfl : sc = 0 := Decidable.not_not.1 hsc
  clear hsc
  go_wp2_with fail
  refine (specNodes_c _ m (1 + (zn : Int)) w2 ⟨_, rfl, hMr.ext hx2⟩).mono ?_
  rintro e w3 hres
  obtain ⟨g3, xs3, sb3, sc3, rfl, hans3, hg3, hx3⟩ := hres.ans
  obtain ⟨rfl, rfl, rfl⟩ := hans3.unique HANS.out
  clear hres hans3 c0 c1 c2
  have hX3 := hX2.trans hx3
  have b3 := b2.ext hx3
  have c0 := b3.cell 0
  have c1 := b3.cell 1
  have c2 := b3.cell 2
  simp only [List.getElem?_toArray, List.getElem?_cons_zero, List.getElem?_cons_succ] at c0 c1 c2
  obtain ⟨hmo, kk, hend, hlen, hxs, hsb⟩ : machOk m = true ∧ ∃ k, EndsS m (zn + 1) k ∧ (iterS m (zn + 1) k).1.length ≤ 2000 ∧ xs3 = (iterS m (zn + 1) k).1 ∧ sb3 = (!(iterS m (zn + 1) k).2) := by
    have en : (1 + (zn : Int)).toNat = zn + 1 := by omega
    rcases HANS.out with ⟨_, _, _, h⟩ | ⟨_, _, _, _, h⟩ | ⟨a, _, k, b, ⟨_, _, _, h⟩ | ⟨d1, d2, d3, _⟩⟩
    · omega
    · omega
    · omega
    · rw [en] at b d1 d2 d3
      exact ⟨a, k, b, d1, d2, d3⟩
  have HNN : Hid ((1 : Int) + (zn : Int) = ((zn + 1 : Nat) : Int)) := by unfold Hid; omega
  have mok := MOk.of hmo
  have hS := SegmentStarts_c (.agg #[.int .i64 m.sy, .int .i64 m.st, .slice Ar m.rules.length cr]) m (zn + 1) w3 ⟨_, rfl, (hMr.ext hx2).ext hx3⟩ hmo (by omega) (by omega)
  rw [← HNN.out] at hS
  have hpre : startsIn m (zn + 1) <+: xs3 := by
    have := iterS_keeps m (zn + 1) 0 kk (Nat.zero_le _)
    rw [iterS_zero mok (by omega)] at this
    rw [hxs]
    exact this
  go_wp2_with fail
  refine hS.mono ?_
  rintro e w4 ⟨u4, rfl, ho4, hx4⟩
  have hX4 := hX3.trans hx4
  have b4 := b3.ext hx4
  have hR := (hg2.rows.ext hx3).ext hx4
  have hK := hg3.rows.ext hx4
  have hU := ho4.rows
  obtain ⟨Al, cl, rfl, _, _⟩ := hR.form
  obtain ⟨Ak, ck, rfl, _, _⟩ := hK.form
  obtain ⟨Au, cu, rfl, _, _⟩ := hU.form
  have HPRE := Lib.hid hpre
  have hple := hpre.length_le
  generalize hst : startsIn m (zn + 1) = ss at *
  have HST := Lib.hid hst
  have HXS := Lib.hid hxs
  have HSB := Lib.hid hsb
  have hll : xs3.length ≤ 2000 := by rw [hxs]; exact hlen
  clear hS hpre hst hxs hsb c0 c1 c2 hlen
  have e1 : ((xs3.length : Int) != (xs3.length : Int)) = false := by simp
  have e2 : decide ((xs3.length : Int) < (ss.length : Int)) = false := by simp; omega
  have e3 : decide (xs3.length < ss.length) = false := by simp; omega
  go_wp2
  go_loopw [18] (fun i wr => ∃ k : Nat, k ≤ ss.length ∧ i = .int .i64 k ∧ Ext w4 wr) (fun i _ => ss.length - (intOf i).toNat)
  case atStart => exact ⟨0, Nat.zero_le _, rfl, Ext.refl _⟩
  case round =>
    obtain ⟨k, hk, rfl, hx⟩ := hrel
    by_cases hlt : k < ss.length
    · obtain ⟨bl, ol, rfl, hcl⟩ := hR.at (k := k) (by omega)
      obtain ⟨bu, ou, rfl, hcu⟩ := hU.at hlt
      obtain ⟨A5, d5, c5, r5⟩ := hcl k (by omega)
      obtain ⟨A6, d6, c6, r6⟩ := hcu k hlt
      have q5 := cellR (hx.cell c5)
      have q6 := cellR (hx.cell c6)
      have r5 := r5.ext hx
      have r6 := r6.ext hx
      have he : lEq (xs3[k]'(by omega)) ss[k] = true := lEq_true (HPRE.out.getElem hlt).symm
      clear hcl hcu hR hU hK e1 e2 e3
      go_wp2
      refine wp_region_ext (by kernel_rfl) (by kernel_rfl) ?_
      repeat (go_big_quiet_step ((go_at_call 10; exact Calls.extR (b10Nums_c _ _ _ _ _ (r5.ext (below_regrown _ _ _)) (r6.ext (below_regrown _ _ _))))))
      refine wpQuiet_nil ?_
      intro w5 hx5
      go_wp2
      go_roundw
      case rel => exact ⟨k + 1, by omega, by go_num, hx.trans hx5⟩
      case measure => simp [intOf]; omega
    · have hge : decide (k < ss.length) = false := by simp [hlt]
      clear e1 e2 e3
      have b5 := b4.ext hx
      have c0 := b5.cell 0
      have c1 := b5.cell 1
      have c2 := b5.cell 2
      simp only [List.getElem?_toArray, List.getElem?_cons_zero, List.getElem?_cons_succ] at c0 c1 c2
      have HFIN : Hid ((∃ T, (∀ j < T, ¬ ruleAt m (runC m j) = noR) ∧ ruleAt m (runC m T) = noR) → sb3 = false) := by
        rintro ⟨T, h1, h2⟩
        have hcl := ends_closed hend (by rw [← HXS.out]; exact hll)
        obtain ⟨x, hx1, hx2⟩ := halts_may hmo (n := zn + 1) (by omega) hcl (ends_starts m (zn + 1) kk) (runC_halts hmo h1 h2)
        rw [HSB.out, iterS_flag, Bool.not_eq_false']
        exact List.any_eq_true.2 ⟨x, hx1, hx2⟩
      by_cases hz : xs3.length = 0
      · have hz1 : decide ((0 : Int) < (xs3.length : Int)) = false := decide_eq_false (by omega)
        have hz2 : decide (0 < xs3.length) = false := decide_eq_false (by omega)
        clear hz
        go_wp2_with fail
        refine (RunMachine0_c (.agg #[.int .i64 m.sy, .int .i64 m.st, .slice Ar m.rules.length cr]) m 200 wr ⟨_, rfl, (((hMr.ext hx2).ext hx3).ext hx4).ext hx⟩ hmo (by omega) (by omega)).mono ?_
        rintro e w9 ⟨q9, A9, n9, k9, B9, m9, l9, r9, h9, c9, rfl, himp, hx9⟩
        have hXF := (hX4.trans hx).trans hx9
        by_cases q : c9 = 0 ∧ h9 = true
        · obtain ⟨rfl, rfl⟩ := q
          have hsb := HFIN.out (himp rfl rfl)
          have HQ : Hid ((iterS m (zn + 1) kk).2 = true) := by
            have := HSB.out
            rw [hsb] at this
            unfold Hid
            simpa using this.symm
          subst hsb
          clear himp
          go_wp2
          go_ret
          exact ⟨by first | (simp; done) | simp [HQ.out], hXF.trans (Ext.alloc _ _)⟩
        · by_cases q1 : c9 = 0
          · subst q1
            obtain rfl : h9 = false := by simpa using q
            go_wp2
            go_ret
            exact ⟨by simp, hXF.trans (Ext.alloc _ _)⟩
          · have Q1 : (c9 != 0) = true := by simp [q1]
            clear himp q
            go_wp2
            go_ret
            exact ⟨by simp, hXF.trans (Ext.alloc _ _)⟩
      · have hz1 : (0 : Int) < (xs3.length : Int) := by omega
        go_wp2_with fail
        refine (b10At_c _ bs' 1 xs3.length wr (h'.ext (hX4.trans hx)) (by omega) (by omega)).mono ?_
        rintro e w' ⟨⟨at', rfl, a0, a1, a2⟩, rfl⟩
        have a3 : at' < (xs3.length : Int) := by
          by_cases q : (xs3.length : Int) ≤ 1
          · have := a1 q; omega
          · exact a2 (by omega)
        obtain ⟨j, rfl⟩ : ∃ j : Nat, at' = (j : Int) := ⟨at'.toNat, by omega⟩
        have hj : j < xs3.length := by omega
        have hmem : xs3[j] ∈ (iterS m (zn + 1) kk).1 := by rw [← HXS.out]; exact List.getElem_mem hj
        have hno := iterS_ok mok (n := zn + 1) (by omega) kk (fun j hj => (hend.1 j hj).1) _ hmem
        have hho := iterS_head mok (n := zn + 1) (by omega) kk (fun j hj => (hend.1 j hj).1) _ hmem
        obtain ⟨bl, ol, rfl, hcl⟩ := hR.at hj
        obtain ⟨A5, d5, c5, r5⟩ := hcl j hj
        have c5 := hx.cell c5
        have r5 := r5.ext hx
        have hMd : Mach wr.drew (.agg #[.int .i64 m.sy, .int .i64 m.st, .slice Ar m.rules.length cr]) m := ⟨_, rfl, ((((hMr.ext hx2).ext hx3).ext hx4).ext hx).ext (Ext.drew _)⟩
        have r5d := r5.ext (Ext.drew _)
        have HCL : Hid (∀ y ∈ predsTo m xs3[j] m.rules.length, y ∈ xs3) := fun y hy => by
          rw [HXS.out]
          exact ends_closed hend (by rw [← HXS.out]; exact hll) _ hmem y hy
        clear a1 a2 hcl
        go_wp2_with fail
        go_region_held3 (fun w' => w'.cell? ⟨w1.heap.size, 0, none⟩ = some (.int .i64 m.sy) ∧ w'.cell? ⟨w1.heap.size, 1, none⟩ = some (.int .i64 m.st) ∧ w'.cell? ⟨w1.heap.size, 2, none⟩ = some (.slice Ar m.rules.length cr) ∧ w'.cell? ⟨bl, ol + j, none⟩ = some (.slice A5 xs3[j].length d5))
          (first | go_keep | exact ⟨EX6.cell c0, EX6.cell c1, EX6.cell c2, EX6.cell c5⟩)
          ((go_at_call 11; ((with_reducible refine (SegmentPredecessors_c _ _ m xs3[j] (zn + 1) _ hMd r5d hmo (by omega) (by omega) hno hho).mono ?_)); rintro e w6 ⟨u6, rfl, hu6, hx6⟩; have EX6 := (Ext.drew wr).trans hx6; obtain ⟨A6, d6, rfl, _, _⟩ := hu6.form))
        all_goals
          generalize predsTo m xs3[j] m.rules.length = ps at *
          clear c0 c1 c2 c5
          go_wp2
          go_loopw [22] (fun i wz => ∃ k : Nat, k ≤ ps.length ∧ i = .int .i64 k ∧ Ext w6 wz) (fun i _ => ps.length - (intOf i).toNat)
          case atStart => exact ⟨0, Nat.zero_le _, rfl, Ext.refl _⟩
          case round =>
            obtain ⟨k2, hk2, rfl, hxz⟩ := hrel
            have hxr : Ext w4 _ := (hx.trans EX6).trans hxz
            by_cases hlt2 : k2 < ps.length
            · obtain ⟨b7, o7, rfl, h7⟩ := hu6.at hlt2
              obtain ⟨A7, d7, c7, r7⟩ := h7 k2 hlt2
              have c7 := hxz.cell c7
              have HM := Lib.hid (HCL.out _ (List.getElem_mem hlt2))
              clear h7
              go_wp2_with fail
              refine (b10Row_c _ _ _ xs3 ps[k2] (hR.ext hxr) (r7.ext hxz)).mono ?_
              rintro e w8 ⟨rfl, hx8⟩
              rw [decide_eq_true HM.out]
              go_wp2
              go_roundw
              case rel => exact ⟨k2 + 1, by omega, by go_num, hxz.trans hx8⟩
              case measure => simp [intOf]; omega
            · have hge2 : decide (k2 < ps.length) = false := by simp [hlt2]
              have b9 := b4.ext hxr
              have c0 := b9.cell 0
              have c1 := b9.cell 1
              have c2 := b9.cell 2
              simp only [List.getElem?_toArray, List.getElem?_cons_zero, List.getElem?_cons_succ] at c0 c1 c2
              go_wp2_with fail
              refine (RunMachine0_c (.agg #[.int .i64 m.sy, .int .i64 m.st, .slice Ar m.rules.length cr]) m 200 _ ⟨_, rfl, (((hMr.ext hx2).ext hx3).ext hx4).ext hxr⟩ hmo (by omega) (by omega)).mono ?_
              rintro e w9 ⟨q9, A9, n9, k9, B9, m9, l9, r9, h9, c9, rfl, himp, hx9⟩
              have hXF := (hX4.trans hxr).trans hx9
              by_cases q : c9 = 0 ∧ h9 = true
              · obtain ⟨rfl, rfl⟩ := q
                have hsb := HFIN.out (himp rfl rfl)
                have HQ : Hid ((iterS m (zn + 1) kk).2 = true) := by
                  have := HSB.out
                  rw [hsb] at this
                  unfold Hid
                  simpa using this.symm
                subst hsb
                clear himp
                go_wp2
                go_ret
                exact ⟨by first | (simp; done) | simp [HQ.out], hXF.trans (Ext.alloc _ _)⟩
              · by_cases q1 : c9 = 0
                · subst q1
                  obtain rfl : h9 = false := by simpa using q
                  go_wp2
                  go_ret
                  exact ⟨by simp, hXF.trans (Ext.alloc _ _)⟩
                · have Q1 : (c9 != 0) = true := by simp [q1]
                  clear himp q
                  go_wp2
                  go_ret
                  exact ⟨by simp, hXF.trans (Ext.alloc _ _)⟩
end Go.Proofs.YtmffnlpndgdcjaaGreatDoor
