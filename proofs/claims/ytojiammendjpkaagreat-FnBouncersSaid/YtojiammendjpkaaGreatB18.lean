/- Contract: a repeater of a formula tape takes its words from the wall behind it.
Plain words: the lists of a formula tape stay short while it is brought to its normal form.
Contract: the normal form of a formula tape. -/
import Derived.Test.YtojiammendjpkaaGreatB17
import Derived.Test.YtojiammendjpkaaGreatB04
section
set_option linter.unusedSimpArgs false
set_option linter.unusedVariables false
namespace Go.Proofs.YtojiammendjpkaaGreat
open Go Go.RowKit Go.Proofs
set_option maxHeartbeats 400000
theorem begins_c (w : World) (u v : Value) (xs ys : List Int) (ha : Ints w u xs) (hb : Ints w v ys) :
    Calls Tryz.prog 189 #[u, v] w fun e w' => e = .returned (.bool (begB xs ys)) ∧ Ext w w' := by
  obtain ⟨A, ca, rfl, h1, h1'⟩ := id ha.form
  obtain ⟨B, cb, rfl, h2, h2'⟩ := id hb.form
  by_cases hl : ys.length ≤ xs.length
  · have hR : Hid (begB xs ys = lEq (xs.take ys.length) ys) := Lib.hid (by unfold begB; rw [decide_eq_true hl, Bool.true_and])
    have SE := slicesEqual_c w (.slice A ys.length ca) (.slice B ys.length cb) (xs.take ys.length) ys (Ints.take ha ys.length hl) hb
    generalize lEq (xs.take ys.length) ys = b at *
    have hcc : ys.length ≤ ca := by omega
    clear ha hb
    go_enter Tryz.func189, Tryz.ntmps189
    go_wp2_with fail
    refine SE.mono ?_
    rintro e w1 ⟨rfl, hx⟩
    go_wp2
    go_ret
    exact ⟨by rw [hR.out]; cases b <;> rfl, hx⟩
  · have hR : Hid (begB xs ys = false) := Lib.hid (by unfold begB; rw [decide_eq_false hl, Bool.false_and])
    have hd : ¬ ys.length ≤ xs.length := hl
    clear ha hb
    go_enter Tryz.func189, Tryz.ntmps189
    go_wp2
    go_ret
    exact ⟨by rw [hR.out]; rfl, Ext.refl _⟩
theorem FoAt.offs {base : Nat} {w : World} {g : Nat} {q hd a : Int} {A : List (List Int)} {u x : List Int} {C B : List (List Int)} {v : List Int} {D : List (List Int)} {os : List Int} {gw gr go cw cr co : Nat} {vw vr : List Value} (h : FoAt base w g (foMid q hd a A u x C B v D os) gw gr go cw cr co vw vr) :
    w.cell? ⟨g, 5, none⟩ = some (.slice (some ⟨go, 0, none⟩) os.length co) ∧ ∀ k, k < os.length → w.cell? ⟨go, k, none⟩ = some (.int .i64 (os.getD k 0)) := by
  have b5 := h.blk.cell 5
  simp only [foMid, List.getElem?_toArray, List.getElem?_cons_zero, List.getElem?_cons_succ] at b5
  refine ⟨b5, fun k hk => ?_⟩
  have := own_cell h.oo (i := k) hk
  rw [this]
  show (ivs os)[k]? = _
  rw [ivs_get os k hk, getD_get hk]
set_option maxRecDepth 20000 in
set_option maxHeartbeats 8000000 in
theorem absorb_c {g : Nat} {q hd a0 : Int} {A : List (List Int)} {u x0 : List Int} {C B : List (List Int)} {v : List Int} {D : List (List Int)} {os : List Int} {gw gr go cw cr co : Nat} {vw vr : List Value} (w0 w : World) (h : FoAt w0.heap.size w g (foMid q hd a0 A u x0 C B v D os) gw gr go cw cr co vw vr) (hX : Ext w0 w)
    (hAB : A.length = B.length) (hA3 : A.length ≤ 3) (hC3 : C.length ≤ 3) (hD3 : D.length ≤ 3) (hx : x0.length ≤ 5000) (hv1 : 1 ≤ v.length) (hv : v.length ≤ 1000) (ha : -10000 ≤ a0 ∧ a0 ≤ 10000) (hos : A.length < os.length ∧ os.length ≤ 3) (ho : -10000 ≤ os.getD A.length 0 ∧ os.getD A.length 0 ≤ 10000) :
    Calls Tryz.prog 165 #[.pointer (some ⟨g, 0, none⟩), .int .i64 (A.length : Int)] w fun e w' => e = .returned (.tuple #[]) ∧ (∃ vw' vr', FoAt w0.heap.size w' g (foMid q hd (absR (decide (hd = (A.length : Int) + 1)) v x0.length x0 a0 (os.getD A.length 0)).a A u (absR (decide (hd = (A.length : Int) + 1)) v x0.length x0 a0 (os.getD A.length 0)).x C B v D (os.set A.length (absR (decide (hd = (A.length : Int) + 1)) v x0.length x0 a0 (os.getD A.length 0)).o)) gw gr go cw cr co vw' vr') ∧ XF g gw gr go w0 w w' := by
  obtain ⟨R, hR⟩ : ∃ R, absR (decide (hd = (A.length : Int) + 1)) v x0.length x0 a0 (os.getD A.length 0) = R := ⟨_, rfl⟩
  rw [hR]
  obtain ⟨h1, hh1⟩ : ∃ h1, decide (hd = (A.length : Int) + 1) = h1 := ⟨_, rfl⟩
  rw [hh1] at hR
  have HH1 := Lib.hid hh1
  have HAB := Lib.hid hAB
  clear hh1 hAB
  obtain ⟨i, hi⟩ : ∃ i, A.length = i := ⟨_, rfl⟩
  have HI := Lib.hid hi
  have hi3 : i ≤ 3 := by omega
  rw [hi] at hR hos ho ⊢
  clear hi hA3
  obtain ⟨o0, ho0⟩ : ∃ o0, os.getD i 0 = o0 := ⟨_, rfl⟩
  rw [ho0] at hR ho
  have hset : os.set i o0 = os := by
    rw [← ho0, getD_get hos.1]
    exact List.set_getElem_self hos.1
  rw [← hset] at h
  have hosl : ∀ o, (os.set i o).length = os.length := fun o => by simp
  have hosg : ∀ o, (os.set i o).getD i 0 = o := fun o => by rw [getD_get (by simp; exact hos.1)]; simp
  have HOSL := Lib.hid hosl
  have HOSG := Lib.hid hosg
  obtain ⟨k1, k2, k3, k4⟩ := h.cells
  obtain ⟨vv, cv, iv⟩ := h.v
  rw [← HAB.out, HI.out] at cv k4
  obtain ⟨Av, cV, rfl, _, _⟩ := iv.ints.form
  have hwi : IntKind.i64.wrap ((i : Int) + 1) = ((i + 1 : Nat) : Int) := by rw [show (i : Int) + 1 = ((i + 1 : Nat) : Int) by omega]; exact IntWalk.i64_in _ (by omega)
  go_enter Tryz.func165, Tryz.ntmps165
  go_wp2_with fail
  refine (sizeIN_c _ _ _ _).mono ?_
  rintro e w2 ⟨rfl, rfl⟩
  clear k1 k2 k3 k4 cv iv ho0 hset hosl hosg
  go_wp2_with fail
  go_loopw [] (fun wr => ∃ (x : List Int) (a o : Int) (k : Nat) (vw : List Value), FoAt w0.heap.size wr g (foMid q hd a A u x C B v D (os.set i o)) gw gr go cw cr co vw vr ∧ XF g gw gr go w0 w wr ∧ Hid (x.length ≤ k) ∧ x.length ≤ x0.length ∧ (a0 - (x0.length - x.length) ≤ a ∧ a ≤ a0) ∧ (o0 ≤ o ∧ o ≤ o0 + (x0.length - x.length)) ∧ Hid (absR h1 v k x a o = R)) (fun wr => lenAt2 wr ⟨gw, i + 1, none⟩)
  case atStart => exact ⟨x0, a0, o0, x0.length, _, h, XF.start hX, Lib.hid (Nat.le_refl _), Nat.le_refl _, by omega, by omega, Lib.hid hR⟩
  case round =>
    clear h hX
    obtain ⟨x, a, o, k, vw1, st, hxx, HFU, hxl, hab, hob, HR⟩ := hrel
    obtain ⟨xv, cx, ix⟩ := st.x
    obtain ⟨vv, cv, iv⟩ := st.v
    obtain ⟨k1, k2, k3, k4⟩ := st.cells
    rw [HI.out] at cx k3
    rw [← HAB.out, HI.out] at cv k4
    obtain ⟨Ax, cX, rfl, hcX1, hcX2⟩ := ix.ints.form
    have BG := fun W (he : Ext wr W) => begins_c W (.slice Ax x.length cX) vv x v (ix.ints.ext he) (iv.ints.ext he)
    have q3 : wr.drew.cell? ⟨g, 3, none⟩ = some (.slice (some ⟨gw, 0, none⟩) (i + (C.length + 2)) cw) := k3
    have q4 : wr.drew.cell? ⟨g, 4, none⟩ = some (.slice (some ⟨gr, 0, none⟩) (i + (D.length + 1)) cr) := k4
    have qx : wr.drew.cell? ⟨gw, i + 1, none⟩ = some (.slice Ax x.length cX) := cx
    have qv : wr.drew.cell? ⟨gr, i, none⟩ = some vv := cv
    have HMX : Hid (lenAt2 wr ⟨gw, i + 1, none⟩ = x.length) := Lib.hid (lenAt2_of cx)
    go_wp2_with fail
    refine wp_region_ordT 15 (readsT [0, 1, 2, 3, 4, 5, 6, 7, 8, 9, 10, 11, 12, 13, 14] .done) (by kernel_rfl) (by kernel_rfl) (fun _ _ _ _ _ h => h) ?_
    simp only [readsT]
    iterate 15 (refine wpOrdT_read (v := ?_) (by rfl) (Or.inl ⟨by rfl, fun x hx => ?_⟩) ?_; rotate_left; (· have y3 := Ext.cell hx q3; have y4 := Ext.cell hx q4; have yx := Ext.cell hx qx; have yv := Ext.cell hx qv; go_simp; try first | with_reducible rfl | (rw [if_pos (by omega)]; try with_reducible rfl) | (rw [hwi, Int.toNat_natCast, if_pos (by omega)]; try with_reducible rfl)); try simp only [Act.put, List.setIfInBounds_toArray, List.set_cons_zero, List.set_cons_succ])
    refine wpOrdT_done ?_
    try simp only [List.drop_succ_cons, List.drop_zero]
    have BGD := BG wr.drew (Ext.drew wr)
    obtain ⟨bb, hbb⟩ : ∃ bb, begB x v = bb := ⟨_, rfl⟩
    rw [hbb] at BGD
    have HBB := Lib.hid hbb
    clear hbb BG q3 q4 qx qv
    go_wp2_with fail
    refine BGD.mono ?_
    rintro e w3 ⟨rfl, hx3⟩
    have hxe : Ext wr w3 := (Ext.drew wr).trans hx3
    have st1 := st.ext hxe
    have hx1 := hxx.trans hxe
    have ix1 := ix.ext hxe
    have hcx3 := hxe.cell cx
    have m1 := hxe.cell k1
    have m2 := hxe.cell k2
    have HFD : Hid (R = ⟨x, a, o⟩ → ∃ vw' vr', FoAt w0.heap.size w3 g (foMid q hd R.a A u R.x C B v D (os.set i R.o)) gw gr go cw cr co vw' vr') := Lib.hid (fun e => ⟨_, _, by rw [e]; exact st1⟩)
    clear BGD st hxx hx3 k1 k2 k3 k4 cx cv ix iv hxe
    cases bb with
    | false =>
      have HF : Hid (∃ vw' vr', FoAt w0.heap.size w3 g (foMid q hd R.a A u R.x C B v D (os.set i R.o)) gw gr go cw cr co vw' vr') := Lib.hid (HFD.out (by
        rw [← HR.out]
        cases k with
        | zero => rfl
        | succ k =>
          unfold absR
          rw [if_neg (fun hc => by rw [HBB.out] at hc; exact absurd hc.1 (by decide))]))
      clear st1 ix1 HFD m1 m2 hcx3
      go_wp2
      exact bodyPost_end (results_none rfl _ _ _) rfl ⟨rfl, HF.out, hx1⟩
    | true =>
      have HVX : Hid (v.length ≤ x.length) := Lib.hid (by
        have := HBB.out
        simp only [begB, Bool.and_eq_true, decide_eq_true_eq] at this
        exact this.1)
      obtain ⟨k', rfl⟩ : ∃ k', k = k' + 1 := ⟨k - 1, by have := HFU.out; have := HVX.out; omega⟩
      have hxp : 0 < x.length := by have := HVX.out; omega
      obtain ⟨bx, ox, cX', hAx, _, _, _⟩ := ix1.cellAt (k := 0) hxp
      injection hAx with e1 e2 e3
      subst e1 e3
      have hvc : v.length ≤ cX := by have := HVX.out; omega
      have hvx2 := HVX.out
      obtain ⟨xz, cx, _⟩ := st1.x
      have hh1e : decide (hd = (i : Int) + 1) = h1 := by have := HH1.out; rwa [HI.out] at this
      have hkeep : w3.cell? ⟨gw, i + 1, none⟩ = some (.slice (some ⟨bx, ox, none⟩) x.length cX) := hcx3
      clear cx
      by_cases hh : hd = (i : Int) + 1
      · have hhb : (hd == (i : Int) + 1) = true := by simp [hh]
        have hb1 : h1 = true := by rw [← hh1e]; exact decide_eq_true hh
        by_cases hal : a < v.length
        · have HF : Hid (∃ vw' vr', FoAt w0.heap.size w3 g (foMid q hd R.a A u R.x C B v D (os.set i R.o)) gw gr go cw cr co vw' vr') := Lib.hid (HFD.out (by
            rw [← HR.out]
            unfold absR
            rw [if_neg (fun hc => hc.2 ⟨hb1, hal⟩)]))
          have had : decide (a < (v.length : Int)) = true := decide_eq_true hal
          clear st1 ix1 HFD hh hh1e hcx3 hkeep
          go_wp2
          exact bodyPost_ret (results_none rfl _ _ _) rfl ⟨rfl, HF.out, hx1⟩
        · have HR2 : Hid (absR h1 v k' (x.drop v.length) (a - v.length) (o + 1) = R) := Lib.hid (by
            rw [← HR.out]
            conv => rhs; unfold absR
            rw [if_pos ⟨HBB.out, fun hc => hal hc.2⟩, hb1]
            rfl)
          have had : decide (a < (v.length : Int)) = false := decide_eq_false hal
          have hwa : IntKind.i64.wrap (a - (v.length : Int)) = a - v.length := IntWalk.i64_in _ (by omega)
          have hbb : a - (v.length : Int) ≤ a := by omega
          have f4 := st1.blk.frozen 2
          have b4 := st1.blk
          have st4 := st1.putA (a - v.length)
          have hx4 := hx1.setCell (p := ⟨g, 2, none⟩) st1.bg (.int .i64 (a - v.length))
          have ix4 := ix1.set b4 (by decide) 2 (.int .i64 (a - v.length))
          have hkeep : (w3.setCell ⟨g, 2, none⟩ (.int .i64 (a - v.length))).cell? ⟨gw, i + 1, none⟩ = some (.slice (some ⟨bx, ox, none⟩) x.length cX) := (World.cell?_setCell_other w3 ⟨g, 2, none⟩ _ _ (fun e => by
            have e1 : g = gw := by simpa using congrArg Addr.block e
            obtain ⟨⟨cs, hb⟩, _⟩ := own_blk st1.ow
            exact blk_ne b4 hb (by decide) e1)).trans hkeep
          have hgo1 := st1.ow
          clear st1 ix1 HFD hx1 hh1e hcx3 b4 hgo1 HR
          go_upto_region 5 with fail
          obtain ⟨W4, hW4⟩ : ∃ W, w3.setCell ⟨g, 2, none⟩ (.int .i64 (a - v.length)) = W := ⟨_, rfl⟩
          rw [hW4] at st4 hx4 ix4 hkeep
          try rw [hW4]
          clear hW4 f4 m1 m2
          -- region 5: the wall
          obtain ⟨_, _, k3, _⟩ := st4.cells
          obtain ⟨xz, cx, _⟩ := st4.x
          rw [HI.out] at k3 cx
          have hcx : W4.cell? ⟨gw, i + 1, none⟩ = some (.slice (some ⟨bx, ox, none⟩) x.length cX) := hkeep
          have q3 : W4.drew.cell? ⟨g, 3, none⟩ = some (.slice (some ⟨gw, 0, none⟩) (i + (C.length + 2)) cw) := k3
          have qx : W4.drew.cell? ⟨gw, i + 1, none⟩ = some (.slice (some ⟨bx, ox, none⟩) x.length cX) := hcx
          refine wp_region_ordT 17 (readsT [0, 1, 2, 3, 4, 5, 6, 7, 8, 9, 10, 11, 12, 13, 14, 15, 16] .done) (by kernel_rfl) (by kernel_rfl) (fun _ _ _ _ _ h => h) ?_
          simp only [readsT]
          iterate 17 (refine wpOrdT_read (v := ?_) (by rfl) (Or.inl ⟨by rfl, fun x hx => ?_⟩) ?_; rotate_left; (· have y3 := Ext.cell hx q3; have yx := Ext.cell hx qx; go_simp; try first | with_reducible rfl | (rw [if_pos (by omega)]; try with_reducible rfl) | (rw [hwi, Int.toNat_natCast, if_pos (by omega)]; try with_reducible rfl)); try simp only [Act.put, List.setIfInBounds_toArray, List.set_cons_zero, List.set_cons_succ])
          refine wpOrdT_done ?_
          try simp only [List.drop_succ_cons, List.drop_zero]
          obtain ⟨A', hA'⟩ : ∃ A', (if cX = v.length then some (⟨bx, ox, none⟩ : Addr) else some ⟨bx, ox + v.length, none⟩) = A' := ⟨_, rfl⟩
          have hID : IL W4 go (.slice A' (x.length - v.length) (cX - v.length)) (x.drop v.length) := by
            rw [← hA']
            have hvl := HVX.out
            split
            · have e1 : x.length - v.length = 0 := by omega
              have e2 : x.drop v.length = [] := List.drop_eq_nil_of_le (by omega)
              rw [e1, e2]
              exact ix4.nil _ (by omega)
            · exact ix4.drop (k := v.length) hvl
          try rw [hA']
          obtain ⟨⟨csw, hbw⟩, hgwb⟩ := own_blk st4.ow
          obtain ⟨vw5, st5⟩ := st4.putX hID
          rw [HI.out] at st5
          have st5 := st5.ext (Ext.drew _)
          have hx5 := (hx4.setCell (p := ⟨gw, i + 1, none⟩) hgwb (.slice A' (x.length - v.length) (cX - v.length))).trans (Ext.drew _)
          have f5 : W4.drew.frozen? ⟨gw, i + 1, none⟩ = false := hbw.frozen (i + 1)
          clear st4 ix4 hx4 hID hA' hbw q3 k3 cx hcx hkeep
          go_upto_region 6 with fail
          obtain ⟨W5, hW5⟩ : ∃ W, (W4.setCell ⟨gw, i + 1, none⟩ (.slice A' (x.length - v.length) (cX - v.length))).drew = W := ⟨_, rfl⟩
          rw [hW5] at st5 hx5
          try rw [hW5]
          clear hW5 qx f5
          -- region 6: the offset
          obtain ⟨o5, oc⟩ := st5.offs
          have co5 := oc i (by rw [HOSL.out]; exact hos.1)
          rw [HOSG.out] at co5
          rw [HOSL.out] at o5
          have hwo : IntKind.i64.wrap (o + 1) = o + 1 := IntWalk.i64_in _ (by omega)
          have hdl : (x.drop v.length).length = x.length - v.length := by rw [List.length_drop]
          have st6 := st5.setO i (o + 1)
          have hx6 := hx5.setCell (p := ⟨go, i, none⟩) (own_blk st5.oo).2 (.int .i64 (o + 1))
          have e6 : (os.set i o).set i (o + 1) = os.set i (o + 1) := by rw [List.set_set]
          have st6 : FoAt w0.heap.size (W5.setCell ⟨go, i, none⟩ (.int .i64 (o + 1))) g (foMid q hd (a - v.length) A u (x.drop v.length) C B v D (os.set i (o + 1))) gw gr go cw cr co vw5 vr := by rw [← e6]; exact st6
          have HM : Hid (lenAt2 (W5.setCell ⟨go, i, none⟩ (.int .i64 (o + 1))) ⟨gw, i + 1, none⟩ = x.length - v.length) := Lib.hid (by
            obtain ⟨z5, c5, i5⟩ := st6.x
            obtain ⟨A5, cc5, rfl, _, _⟩ := i5.ints.form
            rw [HI.out] at c5
            rw [lenAt2_of c5, hdl])
          have f6 : W5.frozen? ⟨go, i, none⟩ = false := by obtain ⟨⟨cs, hb⟩, _⟩ := own_blk st5.oo; exact hb.frozen i
          have H6 := Lib.hid st6
          have hosi := hos.1
          have HLX : Hid ((x.drop v.length).length ≤ k') := Lib.hid (by have := HFU.out; have := HVX.out; rw [hdl]; omega)
          have hb1 : (x.drop v.length).length ≤ x0.length ∧ (a0 - (x0.length - (x.drop v.length).length) ≤ a - v.length ∧ a - v.length ≤ a0) ∧ (o0 ≤ o + 1 ∧ o + 1 ≤ o0 + (x0.length - (x.drop v.length).length)) := by
            have := HVX.out
            rw [hdl]
            omega
          have HVL := Lib.hid hv1
          clear st5 st6 hdl e6 oc
          go_wp2
          go_roundw
          case rel => exact ⟨_, _, _, k', _, H6.out, hx6, HLX.out, hb1.1, hb1.2.1, hb1.2.2, HR2.out⟩
          case measure => rw [HM.out, HMX.out]; have := HVX.out; omega
      · have hhb : (hd == (i : Int) + 1) = false := by simp [hh]
        have hb1 : h1 = false := by rw [← hh1e]; exact decide_eq_false hh
        have HR2 : Hid (absR h1 v k' (x.drop v.length) a (o + 1) = R) := Lib.hid (by
          rw [← HR.out]
          conv => rhs; unfold absR
          rw [if_pos ⟨HBB.out, fun hc => by rw [hb1] at hc; exact absurd hc.1 (by decide)⟩, hb1]
          rfl)
        clear HFD hh1e hcx3 HR
        go_upto_region 5 with fail
        clear m1 m2
        -- region 5: the wall
        obtain ⟨_, _, k3, _⟩ := st1.cells
        obtain ⟨xz, cx, _⟩ := st1.x
        rw [HI.out] at k3 cx
        have hcx : w3.cell? ⟨gw, i + 1, none⟩ = some (.slice (some ⟨bx, ox, none⟩) x.length cX) := hkeep
        have q3 : w3.drew.cell? ⟨g, 3, none⟩ = some (.slice (some ⟨gw, 0, none⟩) (i + (C.length + 2)) cw) := k3
        have qx : w3.drew.cell? ⟨gw, i + 1, none⟩ = some (.slice (some ⟨bx, ox, none⟩) x.length cX) := hcx
        refine wp_region_ordT 17 (readsT [0, 1, 2, 3, 4, 5, 6, 7, 8, 9, 10, 11, 12, 13, 14, 15, 16] .done) (by kernel_rfl) (by kernel_rfl) (fun _ _ _ _ _ h => h) ?_
        simp only [readsT]
        iterate 17 (refine wpOrdT_read (v := ?_) (by rfl) (Or.inl ⟨by rfl, fun x hx => ?_⟩) ?_; rotate_left; (· have y3 := Ext.cell hx q3; have yx := Ext.cell hx qx; go_simp; try first | with_reducible rfl | (rw [if_pos (by omega)]; try with_reducible rfl) | (rw [hwi, Int.toNat_natCast, if_pos (by omega)]; try with_reducible rfl)); try simp only [Act.put, List.setIfInBounds_toArray, List.set_cons_zero, List.set_cons_succ])
        refine wpOrdT_done ?_
        try simp only [List.drop_succ_cons, List.drop_zero]
        obtain ⟨A', hA'⟩ : ∃ A', (if cX = v.length then some (⟨bx, ox, none⟩ : Addr) else some ⟨bx, ox + v.length, none⟩) = A' := ⟨_, rfl⟩
        have hID : IL w3 go (.slice A' (x.length - v.length) (cX - v.length)) (x.drop v.length) := by
          rw [← hA']
          have hvl := HVX.out
          split
          · have e1 : x.length - v.length = 0 := by omega
            have e2 : x.drop v.length = [] := List.drop_eq_nil_of_le (by omega)
            rw [e1, e2]
            exact ix1.nil _ (by omega)
          · exact ix1.drop (k := v.length) hvl
        try rw [hA']
        obtain ⟨⟨csw, hbw⟩, hgwb⟩ := own_blk st1.ow
        obtain ⟨vw5, st5⟩ := st1.putX hID
        rw [HI.out] at st5
        have st5 := st5.ext (Ext.drew _)
        have hx5 := (hx1.setCell (p := ⟨gw, i + 1, none⟩) hgwb (.slice A' (x.length - v.length) (cX - v.length))).trans (Ext.drew _)
        have f5 : w3.drew.frozen? ⟨gw, i + 1, none⟩ = false := hbw.frozen (i + 1)
        clear st1 ix1 hx1 hID hA' hbw q3 k3 cx hcx hkeep
        go_upto_region 6 with fail
        obtain ⟨W5, hW5⟩ : ∃ W, (w3.setCell ⟨gw, i + 1, none⟩ (.slice A' (x.length - v.length) (cX - v.length))).drew = W := ⟨_, rfl⟩
        rw [hW5] at st5 hx5
        try rw [hW5]
        clear hW5 qx f5
        -- region 6: the offset
        obtain ⟨o5, oc⟩ := st5.offs
        have co5 := oc i (by rw [HOSL.out]; exact hos.1)
        rw [HOSG.out] at co5
        rw [HOSL.out] at o5
        have hwo : IntKind.i64.wrap (o + 1) = o + 1 := IntWalk.i64_in _ (by omega)
        have hdl : (x.drop v.length).length = x.length - v.length := by rw [List.length_drop]
        have st6 := st5.setO i (o + 1)
        have hx6 := hx5.setCell (p := ⟨go, i, none⟩) (own_blk st5.oo).2 (.int .i64 (o + 1))
        have e6 : (os.set i o).set i (o + 1) = os.set i (o + 1) := by rw [List.set_set]
        have st6 : FoAt w0.heap.size (W5.setCell ⟨go, i, none⟩ (.int .i64 (o + 1))) g (foMid q hd (a) A u (x.drop v.length) C B v D (os.set i (o + 1))) gw gr go cw cr co vw5 vr := by rw [← e6]; exact st6
        have HM : Hid (lenAt2 (W5.setCell ⟨go, i, none⟩ (.int .i64 (o + 1))) ⟨gw, i + 1, none⟩ = x.length - v.length) := Lib.hid (by
          obtain ⟨z5, c5, i5⟩ := st6.x
          obtain ⟨A5, cc5, rfl, _, _⟩ := i5.ints.form
          rw [HI.out] at c5
          rw [lenAt2_of c5, hdl])
        have f6 : W5.frozen? ⟨go, i, none⟩ = false := by obtain ⟨⟨cs, hb⟩, _⟩ := own_blk st5.oo; exact hb.frozen i
        have H6 := Lib.hid st6
        have hosi := hos.1
        have HLX : Hid ((x.drop v.length).length ≤ k') := Lib.hid (by have := HFU.out; have := HVX.out; rw [hdl]; omega)
        have hb1 : (x.drop v.length).length ≤ x0.length ∧ (a0 - (x0.length - (x.drop v.length).length) ≤ a ∧ a ≤ a0) ∧ (o0 ≤ o + 1 ∧ o + 1 ≤ o0 + (x0.length - (x.drop v.length).length)) := by
          have := HVX.out
          rw [hdl]
          omega
        have HVL := Lib.hid hv1
        clear st5 st6 hdl e6 oc
        go_wp2
        go_roundw
        case rel => exact ⟨_, _, _, k', _, H6.out, hx6, HLX.out, hb1.1, hb1.2.1, hb1.2.2, HR2.out⟩
        case measure => rw [HM.out, HMX.out]; have := HVX.out; omega
end Go.Proofs.YtojiammendjpkaaGreat
end
section
set_option linter.unusedSimpArgs false
set_option linter.unusedVariables false
namespace Go.Proofs.YtojiammendjpkaaGreat
open Go Go.RowKit Go.Proofs
def totL (xss : List (List Int)) : Nat := (xss.map List.length).sum
theorem totL_app (a b : List (List Int)) : totL (a ++ b) = totL a + totL b := by simp [totL]
theorem totL_cons (x : List Int) (b : List (List Int)) : totL (x :: b) = x.length + totL b := by simp [totL]
theorem totL_mem {xss : List (List Int)} {x : List Int} (h : x ∈ xss) : x.length ≤ totL xss := by
  obtain ⟨a, b, rfl⟩ := List.append_of_mem h
  rw [totL_app, totL_cons]
  omega
theorem rotR_b (h0 h1 : Bool) : ∀ (k : Nat) (u v x : List Int) (a : Int), u.length = k →
    (rotR h0 h1 k u v x a).u.length + (rotR h0 h1 k u v x a).x.length = u.length + x.length ∧ a ≤ (rotR h0 h1 k u v x a).a ∧ (rotR h0 h1 k u v x a).a ≤ a + k
  | 0, u, v, x, a, _ => ⟨rfl, Int.le_refl _, by simp [rotR]⟩
  | k + 1, u, v, x, a, hu => by
    unfold rotR
    split
    · obtain ⟨p, q, r⟩ := rotR_b h0 h1 k (u.take k) (v.drop (v.length - 1) ++ v.take (v.length - 1)) (u.getD k 0 :: x) (if h1 then a + 1 else a) (by rw [List.length_take]; omega)
      rw [List.length_take, List.length_cons] at p
      cases h1 <;> simp at q r p ⊢ <;> omega
    · exact ⟨rfl, Int.le_refl _, by simp; omega⟩
theorem absR_b (h1 : Bool) (v : List Int) (hv : 1 ≤ v.length) : ∀ (k : Nat) (x : List Int) (a o : Int),
    (absR h1 v k x a o).x.length ≤ x.length ∧ ((absR h1 v k x a o).a ≤ a ∧ a ≤ (absR h1 v k x a o).a + (x.length - (absR h1 v k x a o).x.length)) ∧ (o ≤ (absR h1 v k x a o).o ∧ (absR h1 v k x a o).o ≤ o + (x.length - (absR h1 v k x a o).x.length))
  | 0, x, a, o => by simp [absR]
  | k + 1, x, a, o => by
    unfold absR
    split
    · rename_i hc
      have hl : v.length ≤ x.length := by
        have := hc.1
        simp only [begB, Bool.and_eq_true, decide_eq_true_eq] at this
        exact this.1
      obtain ⟨p, q, r⟩ := absR_b h1 v hv k (x.drop v.length) (if h1 then a - v.length else a) (o + 1)
      rw [List.length_drop] at p q r
      cases h1 <;> simp at q r p ⊢ <;> omega
    · simp
/-- The lists are short, the numbers are small. -/
structure NB (f : FoD) (n k : Int) : Prop where
  r1 : 1 ≤ f.rs.length ∧ f.rs.length ≤ 3
  ws : f.ws.length = f.rs.length + 1
  os : f.os.length = f.rs.length
  hd : 0 ≤ f.hd ∧ f.hd ≤ f.rs.length
  tot : totL f.ws ≤ 400
  rep : ∀ v ∈ f.rs, 1 ≤ v.length ∧ v.length ≤ 20
  at_ : -n ≤ f.at_ ∧ f.at_ ≤ n
  off : ∀ o ∈ f.os, -k ≤ o ∧ o ≤ k
theorem NB.more {f : FoD} {n k n' k' : Int} (h : NB f n k) (h1 : n ≤ n') (h2 : k ≤ k') : NB f n' k' :=
  ⟨h.r1, h.ws, h.os, h.hd, h.tot, h.rep, by have := h.at_; omega, fun o ho => by have := h.off o ho; omega⟩
theorem NB.small {f : FoD} {n k : Int} (h : NB f n k) : FoSmall f :=
  ⟨h.r1, h.ws, h.os, fun x hx => by have := totL_mem hx; have := h.tot; omega, fun x hx => by have := h.rep x hx; omega⟩
theorem foOk_nb {m : MachD} {f : FoD} (h : foOk m f = true) : NB f 101 1000 := by
  simp only [foOk, Bool.and_eq_true, decide_eq_true_eq, List.all_eq_true] at h
  obtain ⟨⟨⟨⟨⟨⟨⟨⟨h1, h2⟩, h3⟩, h4⟩, h5⟩, h6⟩, h7⟩, h8⟩, h9⟩ := h
  have r := inB_iff.1 h2
  have hd := inB_iff.1 h8
  have hw : ∀ x ∈ f.ws, x.length ≤ 100 := fun x hx => by
    have := h5 x hx
    simp only [wordIn, Bool.and_eq_true, decide_eq_true_eq] at this
    exact this.1
  have ht : totL f.ws ≤ 100 * f.ws.length := by
    have : ∀ xs : List (List Int), (∀ x ∈ xs, x.length ≤ 100) → totL xs ≤ 100 * xs.length := fun xs => by
      induction xs with
      | nil => intro _; simp [totL]
      | cons x xs ih =>
        intro hx
        have a := ih (fun y hy => hx y (List.mem_cons_of_mem _ hy))
        have b := hx x List.mem_cons_self
        rw [totL_cons, List.length_cons]
        omega
    exact this _ hw
  have hlen : (f.ws.getD f.hd.toNat []).length ≤ 100 := by
    rw [List.getD_eq_getElem?_getD]
    cases e : f.ws[f.hd.toNat]? with
    | none => simp
    | some x => exact hw x (List.mem_of_getElem? e)
  refine ⟨by omega, h3, h4, hd, by omega, fun v hv => ?_, ?_, fun o ho => by have := inB_iff.1 (h7 o ho); omega⟩
  · have := h6 v hv
    simp only [repIn, wordIn, Bool.and_eq_true, decide_eq_true_eq] at this
    omega
  · simp only [atOk, Bool.or_eq_true, Bool.and_eq_true, decide_eq_true_eq] at h9
    rcases h9 with (h9 | h9) | h9
    · have := inB_iff.1 h9; omega
    · omega
    · omega
theorem stE_len (hl : Bool) (a : Int) (w : List Int) : ∀ n, n ≤ w.length → (stE hl a w n).length ≤ n
  | 0, _ => by simp [stE]
  | n + 1, hn => by
    unfold stE
    split
    · have := stE_len hl a w n (by omega); omega
    · rw [List.length_take]; omega
theorem totL_set (xss : List (List Int)) (i : Nat) (x : List Int) (h : i < xss.length) : totL (xss.set i x) + xss[i].length = totL xss + x.length := by
  obtain ⟨A, u, W, rfl, rfl⟩ := split_mid h
  rw [set_mid, totL_app, totL_app, totL_cons, totL_cons]
  simp
  omega
theorem NB.strip {f : FoD} {n k : Int} (h : NB f n k) : NB (stripFo f) (n + 400) k := by
  have h0 : 0 < f.ws.length := by rw [h.ws]; omega
  have hT := h.tot
  have h1 := stF_len (decide (f.hd = 0)) (f.ws.getD 0 []) f.at_
  have h2 := stF_at (decide (f.hd = 0)) (f.ws.getD 0 []) f.at_
  have hA := h.at_
  unfold stripFo
  generalize stF (decide (f.hd = 0)) (f.ws.getD 0 []) f.at_ = p at *
  rw [getD_get h0] at h1 h2
  have hm := totL_mem (List.getElem_mem h0)
  have t1 := totL_set f.ws 0 p.1 h0
  simp only
  have hl : (f.ws.set 0 p.1).length - 1 < (f.ws.set 0 p.1).length := by simp; omega
  have t2 := totL_set (f.ws.set 0 p.1) ((f.ws.set 0 p.1).length - 1) (stE (decide (f.hd = (((f.ws.set 0 p.1).length - 1 : Nat) : Int))) p.2 ((f.ws.set 0 p.1).getD ((f.ws.set 0 p.1).length - 1) []) ((f.ws.set 0 p.1).getD ((f.ws.set 0 p.1).length - 1) []).length) hl
  have t3 := stE_len (decide (f.hd = (((f.ws.set 0 p.1).length - 1 : Nat) : Int))) p.2 ((f.ws.set 0 p.1).getD ((f.ws.set 0 p.1).length - 1) []) ((f.ws.set 0 p.1).getD ((f.ws.set 0 p.1).length - 1) []).length (Nat.le_refl _)
  rw [getD_get hl] at t3 t2 ⊢
  refine ⟨h.r1, by simp only [List.length_set]; exact h.ws, h.os, h.hd, by change totL (List.set _ _ _) ≤ 400; omega, h.rep, by show -(n + 400) ≤ p.2 ∧ p.2 ≤ n + 400; omega, h.off⟩
/-- The lists around a repeater. -/
theorem NB.split {f : FoD} {n k : Int} (h : NB f n k) {i : Nat} (hi : i < f.rs.length) : ∃ A u x C B v D, f = foMid f.q f.hd f.at_ A u x C B v D f.os ∧ A.length = i ∧ B.length = i ∧ C.length = D.length ∧ D.length ≤ 2 := by
  have h1 := h.ws
  have h2 := h.r1
  obtain ⟨A, u, W, hA, lA⟩ := split_mid (xs := f.ws) (i := i) (by omega)
  obtain ⟨B, v, D, hB, lB⟩ := split_mid (xs := f.rs) hi
  cases W with
  | nil => rw [hA] at h1; rw [hB] at h1 hi; simp at h1 hi; omega
  | cons x C =>
    refine ⟨A, u, x, C, B, v, D, ?_, lA, lB, ?_, ?_⟩
    · cases f; simp only at hA hB; subst hA hB; rfl
    · rw [hA, hB] at h1; simp at h1; omega
    · rw [hB] at h2; simp at h2; omega
theorem rotAt_mid {q hd a : Int} {A : List (List Int)} {u x : List Int} {C B : List (List Int)} {v : List Int} {D : List (List Int)} {os : List Int} (hAB : A.length = B.length) (ht : touchB (foMid q hd a A u x C B v D os) (A.length : Int) = false) :
    rotAt (foMid q hd a A u x C B v D os) A.length = foMid q hd (rotR (decide (hd = (A.length : Int))) (decide (hd = (A.length : Int) + 1)) u.length u v x a).a A (rotR (decide (hd = (A.length : Int))) (decide (hd = (A.length : Int) + 1)) u.length u v x a).u (rotR (decide (hd = (A.length : Int))) (decide (hd = (A.length : Int) + 1)) u.length u v x a).x C B (rotR (decide (hd = (A.length : Int))) (decide (hd = (A.length : Int) + 1)) u.length u v x a).v D os := by
  unfold rotAt
  rw [if_neg (by rw [ht]; decide)]
  have g0 : (A ++ u :: x :: C).getD A.length [] = u := getD_mid _ _ _ _
  have g1 : (A ++ u :: x :: C).getD (A.length + 1) [] = x := getD_mid1 _ _ _ _ _
  have g2 : (B ++ v :: D).getD A.length [] = v := by rw [hAB]; exact getD_mid _ _ _ _
  have s1 : ∀ u' x', ((A ++ u :: x :: C).set A.length u').set (A.length + 1) x' = A ++ u' :: x' :: C := fun u' x' => by rw [set_mid, set_mid1]
  have s2 : ∀ v', (B ++ v :: D).set A.length v' = B ++ v' :: D := fun v' => by rw [hAB, set_mid]
  simp only [foMid]
  rw [g0, g1, g2, s1, s2]
  rfl
theorem absAt_mid {q hd a : Int} {A : List (List Int)} {u x : List Int} {C B : List (List Int)} {v : List Int} {D : List (List Int)} {os : List Int} (hAB : A.length = B.length) (ht : touchB (foMid q hd a A u x C B v D os) (A.length : Int) = false) :
    absAt (foMid q hd a A u x C B v D os) A.length = foMid q hd (absR (decide (hd = (A.length : Int) + 1)) v x.length x a (os.getD A.length 0)).a A u (absR (decide (hd = (A.length : Int) + 1)) v x.length x a (os.getD A.length 0)).x C B v D (os.set A.length (absR (decide (hd = (A.length : Int) + 1)) v x.length x a (os.getD A.length 0)).o) := by
  unfold absAt
  rw [if_neg (by rw [ht]; decide)]
  have g1 : (A ++ u :: x :: C).getD (A.length + 1) [] = x := getD_mid1 _ _ _ _ _
  have g2 : (B ++ v :: D).getD A.length [] = v := by rw [hAB]; exact getD_mid _ _ _ _
  have s1 : ∀ x', (A ++ u :: x :: C).set (A.length + 1) x' = A ++ u :: x' :: C := fun x' => set_mid1 _ _ _ _ _
  simp only [foMid]
  rw [g1, g2, s1]
  rfl
theorem NB.rot {f : FoD} {n k : Int} (h : NB f n k) {i : Nat} (hi : i < f.rs.length) : NB (rotAt f i) (n + 400) k := by
  obtain ⟨A, u, x, C, B, v, D, e, lA, lB, lC, lD⟩ := h.split hi
  by_cases ht : touchB f i = true
  · have : rotAt f i = f := by unfold rotAt; rw [if_pos ht]
    rw [this]
    exact h.more (by omega) (Int.le_refl _)
  · have ht : touchB f i = false := by simpa using ht
    have hT := h.tot
    have hA := h.at_
    have hR := h.r1
    have hH := h.hd
    have hO := h.os
    have hrep := h.rep
    rw [e] at hT hR hH hO hrep ht
    rw [← lA] at ht
    have em := rotAt_mid (by omega) ht
    rw [lA, ← e] at em
    rw [em]
    have b := rotR_b (decide (f.hd = (A.length : Int))) (decide (f.hd = (A.length : Int) + 1)) u.length u v x f.at_ rfl
    have bv := rotR_v (decide (f.hd = (A.length : Int))) (decide (f.hd = (A.length : Int) + 1)) u.length u v x f.at_
    rw [lA] at b bv
    generalize rotR (decide (f.hd = (i : Int))) (decide (f.hd = (i : Int) + 1)) u.length u v x f.at_ = R at *
    simp only [foMid, totL_app, totL_cons, List.length_append, List.length_cons] at hT hR hH hO hrep ⊢
    refine ⟨by simp only [List.length_append, List.length_cons]; exact hR, by simp only [List.length_append, List.length_cons]; omega, by simp only [List.length_append, List.length_cons]; exact hO, by simp only [List.length_append, List.length_cons]; exact hH, by simp only [totL_app, totL_cons]; omega, fun z hz => ?_, by simp only; omega, h.off⟩
    simp only [List.mem_append, List.mem_cons] at hz
    rcases hz with hz | rfl | hz
    · exact hrep z (by simp [hz])
    · rw [bv]; exact hrep v (by simp)
    · exact hrep z (by simp [hz])
theorem NB.abs {f : FoD} {n k : Int} (h : NB f n k) {i : Nat} (hi : i < f.rs.length) : NB (absAt f i) (n + 400) (k + 400) := by
  obtain ⟨A, u, x, C, B, v, D, e, lA, lB, lC, lD⟩ := h.split hi
  by_cases ht : touchB f i = true
  · have : absAt f i = f := by unfold absAt; rw [if_pos ht]
    rw [this]
    exact h.more (by omega) (by omega)
  · have ht : touchB f i = false := by simpa using ht
    have hT := h.tot
    have hA := h.at_
    have hR := h.r1
    have hH := h.hd
    have hO := h.os
    have hrep := h.rep
    have hoff := h.off
    rw [e] at hT hR hH hO hrep ht
    rw [← lA] at ht
    have em := absAt_mid (by omega) ht
    rw [lA, ← e] at em
    rw [em]
    have hv := hrep v (by simp [foMid])
    have hol : i < f.os.length := by rw [h.os]; exact hi
    have hoi := hoff (f.os.getD i 0) (by rw [getD_get hol]; exact List.getElem_mem hol)
    have b := absR_b (decide (f.hd = (A.length : Int) + 1)) v hv.1 x.length x f.at_ (f.os.getD i 0)
    rw [lA] at b
    generalize absR (decide (f.hd = (i : Int) + 1)) v x.length x f.at_ (f.os.getD i 0) = R at *
    simp only [foMid, totL_app, totL_cons, List.length_append, List.length_cons] at hT hR hH hO hrep ⊢
    refine ⟨by simp only [List.length_append, List.length_cons]; exact hR, by simp only [List.length_append, List.length_cons]; omega, by simp only [List.length_append, List.length_cons, List.length_set]; exact hO, by simp only [List.length_append, List.length_cons]; exact hH, by simp only [totL_app, totL_cons]; omega, hrep, by simp only; omega, fun o ho => ?_⟩
    have ho : o ∈ f.os.set i R.o := ho
    rcases List.mem_or_eq_of_mem_set ho with ho | ho
    · have := hoff o ho; omega
    · rw [ho]; omega
end Go.Proofs.YtojiammendjpkaaGreat
end
section
set_option linter.unusedSimpArgs false
set_option linter.unusedVariables false
namespace Go.Proofs.YtojiammendjpkaaGreat
open Go Go.RowKit Go.Proofs
set_option maxHeartbeats 400000
def rotN (f : FoD) (i : Nat) : FoD := (List.range i).foldl rotAt (stripFo f)
def absN (f : FoD) (i : Nat) : FoD := (List.range i).foldl absAt (rotN f f.rs.length)
theorem rotN_succ (f : FoD) (i : Nat) : rotN f (i + 1) = rotAt (rotN f i) i := by unfold rotN; rw [List.range_succ, List.foldl_append]; rfl
theorem absN_succ (f : FoD) (i : Nat) : absN f (i + 1) = absAt (absN f i) i := by unfold absN; rw [List.range_succ, List.foldl_append]; rfl
theorem rotAt_rl (f : FoD) (i : Nat) : (rotAt f i).rs.length = f.rs.length := by unfold rotAt; split <;> simp
theorem rotN_nb {f : FoD} (h : NB f 101 1000) : ∀ i : Nat, i ≤ f.rs.length → NB (rotN f i) (501 + 400 * i) 1000 ∧ (rotN f i).rs.length = f.rs.length := by
  intro i
  induction i with
  | zero => intro _; exact ⟨h.strip.more (by omega) (by omega), rfl⟩
  | succ i ih =>
    intro hi
    obtain ⟨a, b⟩ := ih (by omega)
    rw [rotN_succ]
    exact ⟨(a.rot (by omega)).more (by omega) (Int.le_refl _), by rw [rotAt_rl]; exact b⟩
theorem absN_nb {f : FoD} (h : NB f 101 1000) : ∀ i : Nat, i ≤ f.rs.length → NB (absN f i) (1701 + 400 * i) (1000 + 400 * i) ∧ (absN f i).rs.length = f.rs.length := by
  intro i
  induction i with
  | zero =>
    intro _
    obtain ⟨a, b⟩ := rotN_nb h f.rs.length (Nat.le_refl _)
    have := h.r1
    exact ⟨a.more (by omega) (by omega), b⟩
  | succ i ih =>
    intro hi
    obtain ⟨a, b⟩ := ih (by omega)
    rw [absN_succ]
    exact ⟨(a.abs (by omega)).more (by omega) (by omega), by rw [absAt_rs]; exact b⟩
theorem absN_zero (f : FoD) : absN f 0 = rotN f f.rs.length := rfl
theorem norm_absN (f : FoD) : normFo f = absN f f.rs.length := rfl
theorem FoAt.base {base base' : Nat} {w : World} {g : Nat} {f : FoD} {gw gr go cw cr co : Nat} {vw vr : List Value} (h : FoAt base w g f gw gr go cw cr co vw vr) (hb : base' ≤ base) : FoAt base' w g f gw gr go cw cr co vw vr :=
  ⟨h.blk, ownsRow_base h.ow hb, ownsRow_base h.or hb, ownsRow_base h.oo hb, h.iw, h.ir, h.ne, by have := h.bg; omega⟩
/-- What one step of the normal form is: a function of the kit of two, in memory. -/
theorem rotStep_c {g : Nat} {F : FoD} {n : Int} {gw gr go cw cr co : Nat} {vw vr : List Value} (w0 w : World) (h : FoAt w0.heap.size w g F gw gr go cw cr co vw vr) (hX : Ext w0 w) (hb : NB F n 1000) (hn : n ≤ 1701) {i : Nat} (hi : i < F.rs.length) (ht : touchB F i = false) :
    Calls Tryz.prog 164 #[.pointer (some ⟨g, 0, none⟩), .int .i64 (i : Int)] w fun e w' => e = .returned (.tuple #[]) ∧ (∃ vw' vr', FoAt w0.heap.size w' g (rotAt F i) gw gr go cw cr co vw' vr') ∧ XF g gw gr go w0 w w' := by
  obtain ⟨A, u, x, C, B, v, D, e, lA, lB, lC, lD⟩ := hb.split hi
  have hR := hb.r1
  have hT := hb.tot
  have hv := hb.rep
  have ha := hb.at_
  rw [e] at hT hv h ht
  rw [← lA] at ht
  have em := rotAt_mid (by omega) ht
  rw [lA, ← e] at em
  rw [em]
  simp only [foMid, totL_app, totL_cons] at hT
  have hv' := hv v (by simp [foMid])
  have RC := rotate_c w0 w h hX (by omega) (by omega) (by omega) (by omega) (by omega) (by omega) hv'.1 (by omega) (by omega)
  rw [lA] at RC
  exact RC
theorem absStep_c {g : Nat} {F : FoD} {n k : Int} {gw gr go cw cr co : Nat} {vw vr : List Value} (w0 w : World) (h : FoAt w0.heap.size w g F gw gr go cw cr co vw vr) (hX : Ext w0 w) (hb : NB F n k) (hn : n ≤ 5000) (hk : k ≤ 5000) {i : Nat} (hi : i < F.rs.length) (ht : touchB F i = false) :
    Calls Tryz.prog 165 #[.pointer (some ⟨g, 0, none⟩), .int .i64 (i : Int)] w fun e w' => e = .returned (.tuple #[]) ∧ (∃ vw' vr', FoAt w0.heap.size w' g (absAt F i) gw gr go cw cr co vw' vr') ∧ XF g gw gr go w0 w w' := by
  obtain ⟨A, u, x, C, B, v, D, e, lA, lB, lC, lD⟩ := hb.split hi
  have hR := hb.r1
  have hT := hb.tot
  have hv := hb.rep
  have ha := hb.at_
  have hO := hb.os
  have hoff := hb.off
  have hol : i < F.os.length := by rw [hO]; exact hi
  have hoi := hoff (F.os.getD i 0) (by rw [getD_get hol]; exact List.getElem_mem hol)
  rw [e] at hT hv h ht
  rw [← lA] at ht
  have em := absAt_mid (by omega) ht
  rw [lA, ← e] at em
  rw [em]
  simp only [foMid, totL_app, totL_cons] at hT
  have hv' := hv v (by simp [foMid])
  have RC := absorb_c w0 w h hX (by omega) (by omega) (by omega) (by omega) (by omega) hv'.1 (by omega) (by omega) (by omega) (by rw [lA]; omega)
  rw [lA] at RC
  exact RC
theorem XF.next {g gw gr go : Nat} {w0 w W W' : World} (h : XF g gw gr go w0 w W) (k : XF g gw gr go w0 W W') : XF g gw gr go w0 w W' :=
  ⟨k.ext, fun b t cs hb h1 h2 h3 h4 => k.keep b t cs (h.keep b t cs hb h1 h2 h3 h4) h1 h2 h3 h4⟩
set_option maxRecDepth 20000 in
set_option maxHeartbeats 8000000 in
theorem normalized_c (v wv rv ov : Value) (f : FoD) (w : World) (h : FoV w v f wv rv ov) (hb : NB f 101 1000) :
    Calls Tryz.prog 130 #[v] w fun e w' => (∃ g gw gr go cw cr co vw vr, e = .returned (.pointer (some ⟨g, 0, none⟩)) ∧ FoAt w.heap.size w' g (normFo f) gw gr go cw cr co vw vr) ∧ Ext w w' := by
  obtain ⟨V, hV⟩ : ∃ V, V = w.alloc (.cells #[.int .i64 f.q, .int .i64 f.hd, .int .i64 f.at_, wv, rv, ov] 49) := ⟨_, rfl⟩
  have hX : Ext w V := by rw [hV]; exact Ext.alloc _ _
  have CF := copyFormula_c v wv rv ov f V (h.ext hX) hb.small
  obtain ⟨rfl, h1, h2, h3, h4⟩ := h
  have HX := Lib.hid hX
  obtain ⟨r, hr⟩ : ∃ r, f.rs.length = r := ⟨_, rfl⟩
  have HRR := Lib.hid hr
  have hr3 : r ≤ 3 := by have := hb.r1; omega
  clear hr
  go_enter Tryz.func130, Tryz.ntmps130
  go_wp2_with fail
  try rw [← hV]
  clear hV
  refine CF.mono ?_
  rintro e w1 ⟨⟨g, gw, gr, go, cw, cr, co, vw, vr, rfl, st⟩, hx1⟩
  have hhd : f.hd < f.ws.length := by have := hb.hd; have := hb.ws; omega
  have SE := stripEnds_c V w1 st hx1 hb.small hb.hd.1 hhd (by have := hb.at_; omega)
  have HB := Lib.hid hb
  clear CF hb
  go_wp2_with fail
  refine SE.mono ?_
  rintro e w2 ⟨rfl, ⟨vw2, st2⟩, hx2⟩
  clear SE st hx1
  obtain ⟨gf, hgf⟩ : ∃ x, w2.heap.size = x := ⟨_, rfl⟩
  obtain ⟨w3, hw3⟩ : ∃ W, w2.alloc (.cells #[.func (.func 164) #[.pointer (some ⟨g, 0, none⟩)] #[], .func (.func 165) #[.pointer (some ⟨g, 0, none⟩)] #[]] 212) = W := ⟨_, rfl⟩
  have e3 : Ext w2 w3 := by rw [← hw3]; exact Ext.alloc _ _
  have bf : Blk w3 gf 212 #[.func (.func 164) #[.pointer (some ⟨g, 0, none⟩)] #[], .func (.func 165) #[.pointer (some ⟨g, 0, none⟩)] #[]] := by rw [← hw3]; exact Blk.new _ _ _ _ hgf
  have n1 : gf ≠ g := by have := st2.blk.lt; omega
  have n2 : gf ≠ gw := by obtain ⟨⟨cs, hb⟩, _⟩ := own_blk st2.ow; have := hb.lt; omega
  have n3 : gf ≠ gr := by obtain ⟨⟨cs, hb⟩, _⟩ := own_blk st2.or; have := hb.lt; omega
  have n4 : gf ≠ go := by obtain ⟨⟨cs, hb⟩, _⟩ := own_blk st2.oo; have := hb.lt; omega
  have st3 : FoAt V.heap.size w3 g (rotN f 0) gw gr go cw cr co vw2 vr := st2.ext e3
  have hx3 : XF g gw gr go V w3 w3 := XF.start (hx2.trans e3)
  clear st2 hx2 e3
  go_wp2_with fail
  try rw [hw3]
  try rw [hgf]
  clear hw3 hgf
  go_loopw [17] (fun u wr => ∃ (j : Nat) (vw vr : List Value), j ≤ 2 ∧ u = .int .i64 (j : Int) ∧ FoAt V.heap.size wr g (if j = 0 then rotN f 0 else if j = 1 then absN f 0 else absN f r) gw gr go cw cr co vw vr ∧ XF g gw gr go V w3 wr) (fun u _ => 2 - (intOf u).toNat)
  case atStart => exact ⟨0, _, _, by omega, rfl, st3, hx3⟩
  case round =>
    clear st3 hx3
    obtain ⟨j, vwj, vrj, hj, rfl, stj, hxj⟩ := hrel
    have bfj := hxj.keep gf _ _ bf n1 n2 n3 n4
    have c0 := bfj.cell 0
    have c1 := bfj.cell 1
    simp only [List.getElem?_toArray, List.getElem?_cons_zero, List.getElem?_cons_succ] at c0 c1
    have k4 := stj.blk.cell 4
    simp only [List.getElem?_toArray, List.getElem?_cons_zero, List.getElem?_cons_succ] at k4
    clear bfj
    match j, hj with
    | 0, _ =>
      have stj : FoAt V.heap.size wr g (rotN f 0) gw gr go cw cr co vwj vrj := stj
      have hrl : (rotN f 0).rs.length = r := HRR.out
      replace k4 : wr.cell? ⟨g, 4, none⟩ = some (.slice (some ⟨gr, 0, none⟩) r cr) := by rw [← hrl]; exact k4
      clear hrl c1
      go_wp2_with fail
      refine (sizeLL_c _ _ _ _).mono ?_
      rintro e w4 ⟨rfl, rfl⟩
      go_wp2_with fail
      go_loopw [26] (fun u wr => ∃ (i : Nat) (vw vr : List Value), i ≤ r ∧ u = .int .i64 (i : Int) ∧ FoAt V.heap.size wr g (rotN f i) gw gr go cw cr co vw vr ∧ XF g gw gr go V w3 wr) (fun u _ => r - (intOf u).toNat)
      case atStart => exact ⟨0, _, _, Nat.zero_le _, rfl, stj, hxj⟩
      case round =>
        clear stj hxj
        obtain ⟨i, vwi, vri, hi, rfl, sti, hxi⟩ := hrel
        have HNI := Lib.hid (rotN_nb HB.out i (by rw [HRR.out]; exact hi))
        by_cases hlt : i < r
        · have hdl : decide ((i : Int) < (r : Int)) = true := decide_eq_true (by omega)
          obtain ⟨F, hF⟩ : ∃ F, rotN f i = F := ⟨_, rfl⟩
          have hsu := rotN_succ f i
          rw [hF] at sti hsu
          have hnF := HNI.out.1
          rw [hF] at hnF
          have hrF : i < F.rs.length := by rw [← hF, HNI.out.2, HRR.out]; exact hlt
          have TC := touched_c wr sti hnF.hd.1 (by have := hnF.hd; have := hnF.ws; omega) (by have := hnF.hd; have := hnF.r1; omega) (i : Int)
          obtain ⟨tb, htb⟩ : ∃ tb, touchB F (i : Int) = tb := ⟨_, rfl⟩
          rw [htb] at TC
          have HTB := Lib.hid htb
          have HSU := Lib.hid hsu
          have HNF := Lib.hid hnF
          have HRF := Lib.hid hrF
          clear hF hsu hnF htb hrF
          cases tb with
          | true =>
            go_wp2_with fail
            refine TC.mono ?_
            rintro e w5 ⟨rfl, hx5⟩
            have HS5 : Hid (FoAt V.heap.size w5 g (rotN f (i + 1)) gw gr go cw cr co vwi vri) := Lib.hid (by
              have : rotAt F i = F := by unfold rotAt; rw [if_pos HTB.out]
              rw [HSU.out, this]
              exact sti.ext hx5)
            have hxn := hxi.trans hx5
            clear TC sti hxi hx5
            go_wp2
            go_roundw
            case rel => exact ⟨i + 1, _, _, by omega, by go_num, HS5.out, hxn⟩
            case measure => simp [intOf]; omega
          | false =>
            go_wp2_with fail
            refine TC.mono ?_
            rintro e w5 ⟨rfl, hx5⟩
            have st5 := sti.ext hx5
            have hx5x := hxi.trans hx5
            have RS := rotStep_c V w5 st5 hx5x.ext HNF.out (by omega) HRF.out HTB.out
            clear TC sti hxi hx5
            go_wp2_with fail
            refine RS.mono ?_
            rintro e w6 ⟨rfl, ⟨vw6, vr6, st6⟩, hx6⟩
            rw [← HSU.out] at st6
            have hxn := hx5x.next hx6
            clear RS st5 hx5x hx6
            go_wp2
            go_roundw
            case rel => exact ⟨i + 1, _, _, by omega, by go_num, st6, hxn⟩
            case measure => simp [intOf]; omega
        · have hdl : decide ((i : Int) < (r : Int)) = false := decide_eq_false (by omega)
          have hie : i = r := by omega
          subst hie
          have H5 : Hid (FoAt V.heap.size wr g (absN f 0) gw gr go cw cr co vwi vri) := Lib.hid (by rw [absN_zero, HRR.out]; exact sti)
          clear sti
          go_wp2
          go_roundw
          case rel => exact ⟨1, _, _, by omega, by go_num, H5.out, hxi⟩
          case measure => simp [intOf]
    | 1, _ =>
      have stj : FoAt V.heap.size wr g (absN f 0) gw gr go cw cr co vwj vrj := stj
      have hrl : (absN f 0).rs.length = r := by rw [absN_zero, (rotN_nb HB.out _ (Nat.le_refl _)).2]; exact HRR.out
      replace k4 : wr.cell? ⟨g, 4, none⟩ = some (.slice (some ⟨gr, 0, none⟩) r cr) := by rw [← hrl]; exact k4
      clear hrl c0
      go_wp2_with fail
      refine (sizeLL_c _ _ _ _).mono ?_
      rintro e w4 ⟨rfl, rfl⟩
      go_wp2_with fail
      go_loopw [26] (fun u wr => ∃ (i : Nat) (vw vr : List Value), i ≤ r ∧ u = .int .i64 (i : Int) ∧ FoAt V.heap.size wr g (absN f i) gw gr go cw cr co vw vr ∧ XF g gw gr go V w3 wr) (fun u _ => r - (intOf u).toNat)
      case atStart => exact ⟨0, _, _, Nat.zero_le _, rfl, stj, hxj⟩
      case round =>
        clear stj hxj
        obtain ⟨i, vwi, vri, hi, rfl, sti, hxi⟩ := hrel
        have HNI := Lib.hid (absN_nb HB.out i (by rw [HRR.out]; exact hi))
        by_cases hlt : i < r
        · have hdl : decide ((i : Int) < (r : Int)) = true := decide_eq_true (by omega)
          obtain ⟨F, hF⟩ : ∃ F, absN f i = F := ⟨_, rfl⟩
          have hsu := absN_succ f i
          rw [hF] at sti hsu
          have hnF := HNI.out.1
          rw [hF] at hnF
          have hrF : i < F.rs.length := by rw [← hF, HNI.out.2, HRR.out]; exact hlt
          have TC := touched_c wr sti hnF.hd.1 (by have := hnF.hd; have := hnF.ws; omega) (by have := hnF.hd; have := hnF.r1; omega) (i : Int)
          obtain ⟨tb, htb⟩ : ∃ tb, touchB F (i : Int) = tb := ⟨_, rfl⟩
          rw [htb] at TC
          have HTB := Lib.hid htb
          have HSU := Lib.hid hsu
          have HNF := Lib.hid hnF
          have HRF := Lib.hid hrF
          clear hF hsu hnF htb hrF
          cases tb with
          | true =>
            go_wp2_with fail
            refine TC.mono ?_
            rintro e w5 ⟨rfl, hx5⟩
            have HS5 : Hid (FoAt V.heap.size w5 g (absN f (i + 1)) gw gr go cw cr co vwi vri) := Lib.hid (by
              have : absAt F i = F := by unfold absAt; rw [if_pos HTB.out]
              rw [HSU.out, this]
              exact sti.ext hx5)
            have hxn := hxi.trans hx5
            clear TC sti hxi hx5
            go_wp2
            go_roundw
            case rel => exact ⟨i + 1, _, _, by omega, by go_num, HS5.out, hxn⟩
            case measure => simp [intOf]; omega
          | false =>
            go_wp2_with fail
            refine TC.mono ?_
            rintro e w5 ⟨rfl, hx5⟩
            have st5 := sti.ext hx5
            have hx5x := hxi.trans hx5
            have RS := absStep_c V w5 st5 hx5x.ext HNF.out (by omega) (by omega) HRF.out HTB.out
            clear TC sti hxi hx5
            go_wp2_with fail
            refine RS.mono ?_
            rintro e w6 ⟨rfl, ⟨vw6, vr6, st6⟩, hx6⟩
            rw [← HSU.out] at st6
            have hxn := hx5x.next hx6
            clear RS st5 hx5x hx6
            go_wp2
            go_roundw
            case rel => exact ⟨i + 1, _, _, by omega, by go_num, st6, hxn⟩
            case measure => simp [intOf]; omega
        · have hdl : decide ((i : Int) < (r : Int)) = false := decide_eq_false (by omega)
          have hie : i = r := by omega
          subst hie
          have H5 : Hid (FoAt V.heap.size wr g (absN f i) gw gr go cw cr co vwi vri) := Lib.hid sti
          clear sti
          go_wp2
          go_roundw
          case rel => exact ⟨2, _, _, by omega, by go_num, H5.out, hxi⟩
          case measure => simp [intOf]
    | 2, _ =>
      have HF : Hid (FoAt w.heap.size wr g (normFo f) gw gr go cw cr co vwj vrj) := Lib.hid (by
        have st : FoAt V.heap.size wr g (absN f r) gw gr go cw cr co vwj vrj := stj
        rw [norm_absN, HRR.out]
        exact st.base HX.out.size)
      have hxx := HX.out.trans hxj.ext
      clear stj
      go_wp2
      go_ret
      exact ⟨⟨g, gw, gr, go, cw, cr, co, _, _, rfl, HF.out⟩, hxx⟩
end Go.Proofs.YtojiammendjpkaaGreat
end
