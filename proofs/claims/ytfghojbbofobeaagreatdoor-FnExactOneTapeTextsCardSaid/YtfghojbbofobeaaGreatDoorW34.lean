/- Contract of the program's decoding of a configuration in a place of the machine with one tape.
Contract of the program's decoding of a configuration of the machine with one tape for several.
Contract: the program's text of the configuration for which one of the machine with one tape stands. The library's tables are as their text lays them. -/
import Derived.Test.YtfghojbbofobeaaGreatDoorW24
import Derived.Test.YtfghojbbofobeaaGreatDoorW07
import Derived.Test.YtfghojbbofobeaaGreatDoorW11
import Derived.Test.YtfghojbbofobeaaGreatDoorW33
import Derived.Test.YtfghojbbofobeaaGreatDoorW29
import Derived.Test.YtfghojbbofobeaaGreatDoorW12
import Derived.DeepKeys4
section
set_option linter.unusedSimpArgs false
set_option linter.unusedVariables false
namespace Go.Proofs.YtfghojbbofobeaaGreatDoor
open Go Go.RowKit Go.Proofs Go.Maps
set_option maxHeartbeats 400000
set_option maxRecDepth 20000 in
set_option maxHeartbeats 4000000 in
theorem decodeOneTape_c (base : Nat) (w : World) (m : MultiD) (rvm : Value) (bx : Nat) (sy' N : Int) (rs : List RuleD) (ps : List MP) (rv pv : Value) (bm : Nat) (c : ConfD) (lv qv : Value) (i : Nat) (p : MP)
    (h : PlM base w bx sy' N rs ps rv pv bm) (hm : multiOk m = true) (hq : c.q = i) (hi : ps[i]? = some p) (hp : WOk m p) (hl : Ints w lv c.l) (hr : Ints w qv c.r) (fl : Flat lv) (fr : Flat qv) (hL : c.l.length ≤ 200) (hR : c.r.length ≤ 200)
    (hB1 : Hid (∀ z ∈ c.l, 0 ≤ z ∧ z ≤ 2 * m.sy - 1)) (hB2 : Hid (∀ z ∈ c.r, 0 ≤ z ∧ z ≤ 2 * m.sy - 1)) :
    Calls Tryz.prog 37 #[.agg #[.int .i64 m.tp, .int .i64 m.sy, .int .i64 m.st, rvm], .pointer (some ⟨bx, 0, none⟩), .agg #[.int .i64 c.q, lv, qv]] w (DecRes w (decOne m p c)) := by
  obtain ⟨i0, hi0, hz0, hz1, hz2⟩ := info_parts tapeInfo
  obtain ⟨⟨tp1, tp2⟩, ⟨y1, y2⟩, _⟩ := multi_all hm
  have hil : i < ps.length := (List.getElem?_eq_some_iff.1 hi).1
  obtain ⟨Ap, cp, rfl, hp1, hp2, _⟩ := (ownsRow_row h.places).form
  obtain ⟨gp, rfl, _, _, hP⟩ := placesM_at h.places hi
  obtain ⟨Al, cl1, rfl, _, _⟩ := hl.form
  obtain ⟨Ar, cr, rfl, _, _⟩ := hr.form
  have ht0 : 0 ≤ p.t := hp.t0
  have ht1 : p.t < m.tp := hp.t1
  obtain ⟨R, hR⟩ : ∃ R, R = decOne m p c := ⟨_, rfl⟩
  rw [← hR]
  have HR := Lib.hid hR
  obtain ⟨g, hg⟩ : ∃ g, w.heap.size = g := ⟨_, rfl⟩
  obtain ⟨W, hW⟩ : ∃ W, W = ((w.alloc (.cells #[.int .i64 m.tp, .int .i64 m.sy, .int .i64 m.st, rvm] 33)).alloc (.cells #[.int .i64 c.q, .slice Al c.l.length cl1, .slice Ar c.r.length cr] 52)).alloc (.cells #[.int .i64 0, .slice none 0 0] 68) := ⟨_, rfl⟩
  have hXW : Ext w W := by rw [hW]; exact ((Ext.alloc _ _).trans (Ext.alloc _ _)).trans (Ext.alloc _ _)
  have bM : Blk W g 33 #[.int .i64 m.tp, .int .i64 m.sy, .int .i64 m.st, rvm] := by rw [hW]; exact ((Blk.new _ _ _ _ hg).alloc _).alloc _
  have bC : Blk W (g + 1) 52 #[.int .i64 c.q, .slice Al c.l.length cl1, .slice Ar c.r.length cr] := by rw [hW]; exact (Blk.new _ _ _ _ (by simp [hg])).alloc _
  have bO : Blk W (g + 1 + 1) 68 #[.int .i64 0, .slice none 0 0] := by rw [hW]; exact Blk.new _ _ _ _ (by simp [hg])
  have hWs : W.heap.size = g + 1 + 1 + 1 := by rw [hW]; simp [hg]
  have hb3 : w.heap.size ≤ g + 1 + 1 := by omega
  have zD := Ext.drew W
  have hXD := hXW.trans zD
  have x3 := (h.blk.ext hXD).cell 3
  have c0 := (bC.ext zD).cell 0
  have p0 := hXD.cell ((hP 0 (by omega)).trans (by rfl))
  have p1 := hXD.cell ((hP 1 (by omega)).trans (by rfl))
  have p2 := hXD.cell ((hP 2 (by omega)).trans (by rfl))
  have p3 := hXD.cell ((hP 3 (by omega)).trans (by rfl))
  have p4 := hXD.cell ((hP 4 (by omega)).trans (by rfl))
  have p5 := hXD.cell ((hP 5 (by omega)).trans (by rfl))
  have p6 := hXD.cell ((hP 6 (by omega)).trans (by rfl))
  have p7 := hXD.cell ((hP 7 (by omega)).trans (by rfl))
  simp only [List.getElem?_toArray, List.getElem?_cons_zero, List.getElem?_cons_succ, Nat.add_zero] at x3 c0 p0
  have i1 : (0 : Int) ≤ (i : Int) := by omega
  have i2 : (i : Int) < (ps.length : Int) := by omega
  rw [hq] at c0
  rw [hq] at hW
  rw [hq]
  have HQ := Lib.hid hq
  have HP := Lib.hid hp
  have HH := Lib.hid h
  clear hR hi hq hP hp h
  obtain ⟨pk, pa, pt, pc, pf0, pf1, pf2, pd⟩ := p
  simp only at p0 p1 p2 p3 p4 p5 p6 p7 ht0 ht1
  go_enter Tryz.func37, Tryz.ntmps37
  go_upto_region 1 with fail
  try rw [← hW]
  try rw [hg]
  clear hW
  refine wp_region_ordT 9 (readsT [0, 1, 2, 3, 4, 5, 6, 7] (.stir 8 .done)) (by kernel_rfl) (by kernel_rfl) (fun _ _ _ _ _ h => h) ?_
  simp only [readsT]
  iterate 8 (refine wpOrdT_read (v := ?_) (by rfl) (Or.inl ⟨by rfl, fun x hx => ?_⟩) ?_; rotate_left; (· have u0 := hx.cell p0; have u1 := hx.cell p1; have u2 := hx.cell p2; have u3 := hx.cell p3; have u4 := hx.cell p4; have u5 := hx.cell p5; have u6 := hx.cell p6; have u7 := hx.cell p7; have u8 := hx.cell x3; have u9 := hx.cell c0; go_simp; try with_reducible rfl); try simp only [Act.put, List.setIfInBounds_toArray, List.set_cons_zero, List.set_cons_succ])
  refine wpOrdT_stir (by rfl) (fun K hK => ?_)
  go_simp
  refine hK _ _ (Ext.alloc _ _) ?_
  clear hK K
  try simp only [Act.put, List.setIfInBounds_toArray, List.set_cons_zero, List.set_cons_succ]
  refine wpOrdT_done ?_
  try simp only [List.drop_succ_cons, List.drop_zero]
  have hDs : W.drew.heap.size = g + 1 + 1 + 1 := hWs
  obtain ⟨V, hV⟩ : ∃ V, V = (W.alloc (.cells #[.int .i64 pk, .int .i64 pa, .int .i64 pt, .int .i64 pc, .int .i64 pf0, .int .i64 pf1, .int .i64 pf2, .int .i64 pd] 88)).drew := ⟨_, rfl⟩
  have hXV : Ext W V := by rw [hV]; exact (Ext.alloc _ _).trans (Ext.drew _)
  have bP : Blk V (g + 1 + 1 + 1) 88 #[.int .i64 pk, .int .i64 pa, .int .i64 pt, .int .i64 pc, .int .i64 pf0, .int .i64 pf1, .int .i64 pf2, .int .i64 pd] := by rw [hV]; exact (Blk.new _ _ _ _ hWs).drew
  have hVs : V.heap.size = g + 1 + 1 + 1 + 1 := by
    have hh : ∀ o, (W.alloc o).drew.heap.size = g + 1 + 1 + 1 + 1 := fun o => by show (W.alloc o).heap.size = _; simp [hWs]
    rw [hV]; exact hh _
  clear p0 p1 p2 p3 p4 p5 p6 p7 x3 c0
  have q0 := bP.cell 0
  have q1 := bP.cell 1
  have q2 := bP.cell 2
  have m0 := (bM.ext hXV).cell 0
  simp only [List.getElem?_toArray, List.getElem?_cons_zero, List.getElem?_cons_succ] at q0 q1 q2 m0
  have hXVw : Ext w V := hXW.trans hXV
  have bOV := bO.ext hXV
  go_upto_region 2 with fail
  try rw [← hV]
  try rw [hDs]
  clear hV hDs zD hXD
  by_cases hk : pk = 0
  · subst hk
    have HK : Hid (R = match decTapes m c pt m.tp.toNat with | some ts => (⟨pa, ts⟩, 0) | none => (⟨0, []⟩, 9)) := Lib.hid (by rw [HR.out]; unfold decOne; simp only [if_true]; cases decTapes m c pt m.tp.toNat <;> rfl)
    obtain ⟨U, hU⟩ : ∃ U, U = V.alloc (.cells #[.int .i64 pa, .slice none 0 0] 68) := ⟨_, rfl⟩
    have hXU : Ext V U := by rw [hU]; exact Ext.alloc _ _
    have bT : Blk U (g + 1 + 1 + 1 + 1) 68 #[.int .i64 pa, .slice none 0 0] := by rw [hU]; exact Blk.new _ _ _ _ hVs
    have m0U := hXU.cell m0
    have HM0 := Lib.hid m0
    have HQ2 := Lib.hid q2
    have HXV := Lib.hid hXVw
    have HBM := Lib.hid (bM.ext hXV)
    have HBC := Lib.hid (bC.ext hXV)
    have HBO := Lib.hid (bO.ext hXV)
    have HLW := Lib.hid hl
    have HRW := Lib.hid hr
    have HMi := Lib.hid hm
    have HVS := Lib.hid hVs
    clear bM bC bO bOV hXV hXW hl hr hm
    go_wp2_with fail
    try rw [← hU]
    clear hU
    go_loopw [32] (fun u wr => ∃ (k : Nat) (ts : List TapeD) (v : Value) (cl : List Value), (k : Int) ≤ m.tp ∧ u = .int .i64 (k : Int) ∧ decTapes m c pt k = some ts ∧ CpM V ts ts.length v cl wr ∧ Ext V wr ∧ Blk wr (g + 1 + 1 + 1 + 1) 68 #[.int .i64 pa, v]) (fun u _ => m.tp.toNat - (intOf u).toNat)
    case atStart => exact ⟨0, [], _, [], by show (0 : Int) ≤ m.tp; omega, rfl, rfl, CpM.void _ _, hXU, bT⟩
    case round =>
      clear hXU bT m0U m0 q0 q1 q2 hVs
      obtain ⟨k, ts, v, cl, hk, rfl, hdt, st, hx, bT⟩ := hrel
      obtain ⟨Av, cv, rfl, _, _, _⟩ := (ownsRow_row st.own).form
      have hXwr := HXV.out.trans hx
      by_cases hlt : (k : Int) < m.tp
      · have HD := Lib.hid hdt
        clear hdt hk
        have b0 := (HBM.out.ext hx).cell 0
        have b1 := (HBM.out.ext hx).cell 1
        have b2 := (HBM.out.ext hx).cell 2
        have b3 := (HBM.out.ext hx).cell 3
        have d0 := (HBC.out.ext hx).cell 0
        have d1 := (HBC.out.ext hx).cell 1
        have d2 := (HBC.out.ext hx).cell 2
        have e2 := hx.cell HQ2.out
        simp only [List.getElem?_toArray, List.getElem?_cons_zero, List.getElem?_cons_succ] at b0 b1 b2 b3 d0 d1 d2
        have TC := tapeCells_c m rvm c (.slice Al c.l.length cl1) (.slice Ar c.r.length cr) pt (k : Int) wr HMi.out (HLW.out.ext hXwr) (HRW.out.ext hXwr) fl fr hL hR ht0 ht1 (by omega) hlt
        have hlen : (lineC m c pt (k : Int)).length ≤ 400 := by
          unfold lineC
          have h1 := lineT_len m.tp.toNat (frstC m.tp pt (k : Int) c.l.length) (cellsC c) (cellsC c).length
          have h2 : (cellsC c).length = c.l.length + c.r.length := by simp [cellsC]
          omega
        have HME : Hid (∀ z ∈ lineC m c pt (k : Int), 0 ≤ z ∧ z ≤ 2 * m.sy - 1) := Lib.hid (lineC_mem (by omega) hB1.out hB2.out)
        have HFA : Hid (tapeDec m.sy (lineC m c pt (k : Int)) = none → R = (⟨0, []⟩, 9)) := Lib.hid fun hh => by rw [HK.out, decTapes_fail hh (show k < m.tp.toNat by omega)]
        have HGO : Hid (∀ t, tapeDec m.sy (lineC m c pt (k : Int)) = some t → decTapes m c pt (k + 1) = some (ts ++ [t])) := Lib.hid fun t ht => decTapes_next HD.out ht
        obtain ⟨line, hli⟩ : ∃ line, lineC m c pt (k : Int) = line := ⟨_, rfl⟩
        rw [hli] at TC hlen HME HFA HGO
        clear hli
        go_wp2_with fail
        refine TC.mono ?_
        rintro e w1 ⟨u, rfl, ou, hx1⟩
        clear TC
        have hb1 : w1.cell? ⟨g, 1, none⟩ = some (.int .i64 m.sy) := hx1.cell b1
        have hX1 := hx.trans hx1
        have bO1 := HBO.out.ext hX1
        have hXw1 := HXV.out.trans hX1
        clear b0 b1 b2 b3 d0 d1 d2 e2
        have IX := idxM_c u line g m.sy w1 ou.ints hb1 (by omega)
        obtain ⟨Au, cu, rfl, hcu1, hcu2⟩ := id ou.ints.form
        cases hfi : line.findIdx? (markB m.sy) with
        | none =>
          have hz : ixM m.sy line = -1 := by unfold ixM; rw [hfi]
          have HE : Hid (R = (⟨0, []⟩, 9)) := Lib.hid (HFA.out (tapeDec_none hfi))
          rw [hz] at IX
          clear hfi hz
          have ob := bO1.cell
          have of_ := bO1.frozen
          go_wp2_with fail
          refine IX.mono ?_
          rintro e w' ⟨rfl, rfl⟩
          clear IX
          go_wp2_with fail
          rw [HE.out]
          exact bodyPost_ret (v := .tuple #[.agg #[.int .i64 0, .slice none 0 0], .int .i64 9]) (by simp [results, Tryz.results37, go_sem, ob]) rfl (DecRes.fail hb3 hXw1 _ _)
        | some hd =>
          have hz : ixM m.sy line = (hd : Int) := by unfold ixM; rw [hfi]
          obtain ⟨hdl, hmk, _⟩ := List.findIdx?_eq_some_iff_getElem.1 hfi
          obtain ⟨gu, rfl, hgu1, hgu2⟩ := own_at ou (by omega)
          rw [hz] at IX
          have hA : ∃ (Z : Value), (cu = hd + 1 → Z = .slice (some ⟨gu, 0, none⟩) 0 0) ∧ (cu ≠ hd + 1 → Z = .slice (some ⟨gu, hd + 1, none⟩) (line.length - (hd + 1)) (cu - (hd + 1))) ∧ Ints w1 Z (line.drop (hd + 1)) := by
            by_cases hcc : cu = hd + 1
            · refine ⟨_, fun _ => rfl, fun e => (e hcc).elim, ?_⟩
              have : line.drop (hd + 1) = [] := List.drop_eq_nil_of_le (by omega)
              rw [this]
              exact ints_void _
            · refine ⟨_, fun e => (hcc e).elim, fun _ => rfl, ?_⟩
              have := ints_dropA ou.ints rfl (hd + 1) (by omega)
              rwa [Nat.zero_add] at this
          obtain ⟨Z, hZ1, hZ2, hZi⟩ := hA
          have HS := hasM_c Z (line.drop (hd + 1)) g m.sy w1 hZi hb1 (by rw [List.length_drop]; omega)
          obtain ⟨x, hx0⟩ : ∃ x, line[hd] = x := ⟨_, rfl⟩
          have hxr : m.sy ≤ x ∧ x ≤ 2 * m.sy - 1 := by
            have h1 := HME.out _ (List.getElem_mem hdl)
            rw [hx0] at hmk h1
            exact ⟨of_decide_eq_true hmk, h1.2⟩
          have hxg : line.getD hd 0 = x := by rw [List.getD_eq_getElem?_getD, List.getElem?_eq_getElem hdl, ← hx0]; rfl
          have HXG : Hid (line[hd]? = some x) := Lib.hid (by rw [List.getElem?_eq_getElem hdl, hx0])
          have hw1 : IntKind.i64.wrap ((hd : Int) + 1) = (hd : Int) + 1 := IntWalk.i64_in _ (by omega)
          have hw2 : IntKind.i64.wrap (x - m.sy) = x - m.sy := IntWalk.i64_in _ (by omega)
          have hn1 : ¬ (hd : Int) < 0 := by omega
          have hn2 : ((hd : Int) + 1).toNat = hd + 1 := by omega
          have hn3 : (0 : Int) ≤ (hd : Int) + 1 := by omega
          have hn4 : (hd : Int) + 1 ≤ (line.length : Int) := by omega
          have hn5 : hd + 1 ≤ line.length := by omega
          have hn6 : (hd : Int) < (line.length : Int) := by omega
          have hn7 : ¬ cu = hd := by omega
          have HTW := Lib.hid (tapeDec_two hfi)
          have HON := Lib.hid (tapeDec_one hfi)
          have HOU := Lib.hid ou
          have HLE := Lib.hid hlen
          have HX1 := Lib.hid hx1
          obtain ⟨n, hn⟩ : ∃ n, line.length = n := ⟨_, rfl⟩
          have HN := Lib.hid hn
          rw [hn] at IX hcu1 hn4 hn5 hn6 hZ2 hdl
          rw [hn]
          obtain ⟨an, han⟩ : ∃ an, (line.drop (hd + 1)).any (markB m.sy) = an := ⟨_, rfl⟩
          rw [han] at HS
          have HAN := Lib.hid han
          clear hfi hz hmk hx0 ou hlen hn han hx1 hZi
          -- FORMS
          -- FORMS
          -- FORMS
          -- FORMS
          -- FORMS
          -- FORMS
          -- FORMS
          -- FORMS
          -- FORMS
          by_cases hcc : cu = hd + 1
          · have hZ := hZ1 hcc
            subst hZ
            clear hZ1 hZ2
            subst hcc
            go_wp2_with fail
            refine IX.mono ?_
            rintro e w' ⟨rfl, rfl⟩
            clear IX
            go_wp2_with fail
            refine HS.mono ?_
            rintro e w' ⟨rfl, rfl⟩
            clear HS
            cases an with
            | true =>
              have HE : Hid (R = (⟨0, []⟩, 9)) := Lib.hid (HFA.out (HTW.out HAN.out))
              have ob := bO1.cell
              have of_ := bO1.frozen
              go_wp2_with fail
              rw [HE.out]
              exact bodyPost_ret (v := .tuple #[.agg #[.int .i64 0, .slice none 0 0], .int .i64 9]) (by simp [results, Tryz.results37, go_sem, ob]) rfl (DecRes.fail hb3 hXw1 _ _)
            | false =>
              have ht := HON.out HAN.out
              rw [hxg] at ht
              have HG := Lib.hid (HGO.out _ ht)
              have o1 := HOU.out
              rw [HN.out] at o1
              have hlN := HN.out
              go_upto_region 13 with fail
              have zD := Ext.drew w1
              have oD := OwnInts.ext o1 zD
              have oE : w1.drew.ownsRow wr.heap.size 2 1 (.slice (some ⟨gu, 0, none⟩) line.length (hd + 1)) line.length (ivs line) := OwnInts.ext HOU.out zD
              have s1 := zD.cell hb1
              have k0 : w1.drew.cell? ⟨gu, hd, none⟩ = some (.int .i64 x) := by
                rw [World.ownsRow.cellAt oE hd (by omega)]
                simp only [ivs, List.getElem?_map]
                rw [HXG.out]
                rfl
              have kf := World.ownsRow.frozenAt oE hd
              refine wp_region_ordT 8 (readsT [0, 1, 2, 3, 4, 5, 6, 7] .done) (by kernel_rfl) (by kernel_rfl) (fun _ _ _ _ _ h => h) ?_
              simp only [readsT]
              iterate 8 (refine wpOrdT_read (v := ?_) (by rfl) (Or.inl ⟨by rfl, fun x hx => ?_⟩) ?_; rotate_left; (· have u0 := hx.cell k0; have u1 := hx.cell s1; go_simp; try with_reducible rfl); try simp only [Act.put, List.setIfInBounds_toArray, List.set_cons_zero, List.set_cons_succ])
              refine wpOrdT_done ?_
              try simp only [List.drop_succ_cons, List.drop_zero]
              change wpList _ _ _ _ _ w1.drew
              have hXY := hX1.trans zD
              have hlow : wr.heap.size ≤ w1.drew.heap.size := HX1.out.size
              have hXr := HX1.out.trans zD
              clear hb1 s1 oE
              generalize w1.drew = Y at *
              obtain ⟨S, hS⟩ : ∃ S, S = Y.setCell ⟨gu, hd, none⟩ (.int .i64 (x - m.sy)) := ⟨_, rfl⟩
              have oS := own_put oD HN.out.symm (k := hd) (by omega) (x - m.sy)
              rw [← hS] at oS
              have hXS : Ext wr S := by rw [hS]; exact hXr.setCell (p := ⟨gu, hd, none⟩) hgu1 _
              go_upto_region 14 with fail
              try rw [← hS]
              clear hS k0 kf oD
              have HSL : (line.set hd (x - m.sy)).length = n := by rw [List.length_set]; exact hlN
              have i0' := oS.ints
              rw [← HSL] at i0'
              have i1' := i0'.take hd (by omega)
              rw [set_take] at i1'
              have i2' := ints_dropA oS.ints HSL.symm hd (by omega)
              rw [set_drop line hd _ (by omega), Nat.zero_add] at i2'
              try simp only [Nat.add_sub_cancel_left] at i2'
              have hlt1 : (line.take hd).reverse.length ≤ 1048576 := by rw [List.length_reverse, List.length_take]; have := HLE.out; omega
              have hlt0 : (line.take hd).length ≤ 1048576 := by rw [List.length_take]; have := HLE.out; omega
              have hlt2 : ((x - m.sy) :: line.drop (hd + 1)).length ≤ 1048576 := by rw [List.length_cons, List.length_drop]; have := HLE.out; omega
              have hS0 : wr.heap.size ≤ S.heap.size := hXS.size
              have zE := Ext.drew S
              have hVwr : V.heap.size ≤ wr.heap.size := hx.size
              have bT1 := bT.ext (hXS.trans zE)
              have t1 := bT1.cell 1
              simp only [List.getElem?_toArray, List.getElem?_cons_zero, List.getElem?_cons_succ] at t1
              have RV := reversed_c (.slice (some ⟨gu, 0, none⟩) hd (hd + 1)) (line.take hd) S.drew (i1'.ext zE) (.inr ⟨_, _, _, _, rfl⟩) hlt0
              generalize hl1 : (line.take hd).reverse = L1 at *
              generalize hl2 : (x - m.sy) :: line.drop (hd + 1) = L2 at *
              have hcap : hd ≤ (hd + 1) := by omega
              have hcapi : (hd : Int) ≤ (hd : Int) + 1 := by omega
              have hcn : hd ≤ n := by omega
              clear oS HSL i0' hl1 hl2
              refine wp_region_ordT 14 (readsT [0, 1, 2, 3, 4, 7, 8, 9] (.stir 5 (.stir 6 (.stir 10 (.stir 11 (readsT [12] (.stir 13 .done))))))) (by kernel_rfl) (by kernel_rfl) (fun _ _ _ _ _ h => h) ?_
              simp only [readsT]
              iterate 8 (refine wpOrdT_read (v := ?_) (by rfl) (Or.inl ⟨by rfl, fun x hx => ?_⟩) ?_; rotate_left; (· have u0 := hx.cell t1; go_simp; try with_reducible rfl); try simp only [Act.put, List.setIfInBounds_toArray, List.set_cons_zero, List.set_cons_succ])
              refine wpOrdT_stir (by rfl) (fun K hK => ?_)
              go_simp
              go_at_call 74
              refine RV.mono ?_
              rintro e w5 ⟨u5, rfl, ho5, hx5⟩
              refine hK _ _ hx5 ?_
              clear hK K RV
              try simp only [Act.put, List.setIfInBounds_toArray, List.set_cons_zero, List.set_cons_succ]
              have hf5 := ho5.flat
              obtain ⟨A5', c5', rfl, _, _⟩ := ho5.ints.form
              have TR := trimmed_c _ L1 w5 ho5.ints hlt1
              have own5 := own_trim ho5
              refine wpOrdT_stir (by rfl) (fun K hK => ?_)
              go_simp
              go_at_call 66
              refine TR.mono ?_
              rintro e w6 ⟨⟨A5, c5, hu5, rfl⟩, rfl⟩
              injection hu5 with h1 h2 h3
              subst h1 h3
              refine hK _ _ (Ext.refl _) ?_
              clear hK K TR hf5 ho5
              try simp only [Act.put, List.setIfInBounds_toArray, List.set_cons_zero, List.set_cons_succ]
              obtain ⟨n5, hn5⟩ : ∃ n5, trimN L1 L1.length = n5 := ⟨_, rfl⟩
              rw [hn5] at own5
              try rw [hn5]
              clear hn5
              have CL := CloneF_c (.slice (some ⟨gu, hd, none⟩) (n - hd) 1) L2 w5 (i2'.ext (zE.trans hx5)) (.inr ⟨_, _, _, _, rfl⟩) hlt2
              refine wpOrdT_stir (by rfl) (fun K hK => ?_)
              go_simp
              go_at_call 75
              refine CL.mono ?_
              rintro e w7 ⟨u7, rfl, ho7, _, hx7⟩
              refine hK _ _ hx7 ?_
              clear hK K CL
              try simp only [Act.put, List.setIfInBounds_toArray, List.set_cons_zero, List.set_cons_succ]
              obtain ⟨A7', c7', rfl, _, _⟩ := ho7.ints.form
              have TR := trimmed_c _ L2 w7 ho7.ints hlt2
              have own7 := own_trim ho7
              refine wpOrdT_stir (by rfl) (fun K hK => ?_)
              go_simp
              go_at_call 66
              refine TR.mono ?_
              rintro e w8 ⟨⟨A7, c7, hu7, rfl⟩, rfl⟩
              injection hu7 with h1 h2 h3
              subst h1 h3
              refine hK _ _ (Ext.refl _) ?_
              clear hK K TR ho7
              try simp only [Act.put, List.setIfInBounds_toArray, List.set_cons_zero, List.set_cons_succ]
              obtain ⟨n7, hn7'⟩ : ∃ n7, trimN L2 L2.length = n7 := ⟨_, rfl⟩
              rw [hn7'] at own7
              try rw [hn7']
              clear hn7'
              iterate 1 (refine wpOrdT_read (v := ?_) (by rfl) (Or.inl ⟨by rfl, fun x hx => ?_⟩) ?_; rotate_left; (· go_simp; try with_reducible rfl); try simp only [Act.put, List.setIfInBounds_toArray, List.set_cons_zero, List.set_cons_succ])
              refine wpOrdT_stir (by rfl) (fun K hK => ?_)
              go_simp
              refine hK _ _ (Ext.alloc _ _) ?_
              clear hK K
              try simp only [Act.put, List.setIfInBounds_toArray, List.set_cons_zero, List.set_cons_succ]
              refine wpOrdT_done ?_
              try simp only [List.drop_succ_cons, List.drop_zero]
              have hts3 : ts.length ≤ 3 := by have := decTapes_len HD.out; omega
              have eA := Ext.alloc w7 (.cells #[.slice A5' n5 c5', .slice A7' n7 c7'] 110)
              have hXr7 : Ext wr w7 := hXS.trans (zE.trans (hx5.trans hx7))
              have st4 := (st.ext hXr7).ext eA
              have hVS : V.heap.size ≤ S.drew.heap.size := Nat.le_trans hVwr (hXS.trans zE).size
              have hs57 : S.drew.heap.size ≤ w5.heap.size := hx5.size
              have hs7 : w5.heap.size ≤ w7.heap.size := hx7.size
              have hsr7 : wr.heap.size ≤ S.drew.heap.size := (hXS.trans zE).size
              have p5 : OwnInts V.heap.size (w7.alloc (.cells #[.slice A5' n5 c5', .slice A7' n7 c7'] 110)) (.slice A5' n5 c5') (trim L1) := OwnInts.ext (OwnInts.ext (ownsRow_base own5 hVS) hx7) eA
              have p7 : OwnInts V.heap.size (w7.alloc (.cells #[.slice A5' n5 c5', .slice A7' n7 c7'] 110)) (.slice A7' n7 c7') (trim L2) := OwnInts.ext (ownsRow_base own7 (Nat.le_trans hVS hs57)) eA
              have bT4 := (bT.ext hXr7).ext eA
              have hx4 := (hx.trans hXr7).trans eA
              go_wp2_with (at_builtin; refine wpList_append_own_at _ rfl _ _ 66 rfl V.heap.size 110 i0 (.agg #[.slice none 0 0, .slice none 0 0]) 2 48 Tryz.underlying66 hi0 hz0 hz1 hz2 rfl (by decide) _ _ cl rfl st4.own ⟨w7.heap.size, 0, none⟩ 1 1 [.slice A5' n5 c5', .slice A7' n7 c7'] rfl rfl (World.news_of_block (heap_alloc_new w7 _)) ?c2 ?c3 ?c4 ?c5 ?_)
              case c2 => first | exact ⟨rfl, rfl⟩ | (intro u hu; simp at hu; rcases hu with rfl | rfl <;> rfl)
              case c3 => unfold maxLen; omega
              case c4 => omega
              case c5 => have := (hx.trans hXr7).size; first | omega | (simp; omega)
              intro v' w9 hown9 hg9 _ _
              obtain ⟨A9, c9, rfl, _, _, _⟩ := (ownsRow_row hown9).form
              have st5 := (st4.widen ⟨trim L1, trim L2⟩).push (lv := .slice A5' n5 c5') (rv := .slice A7' n7 c7') (by simp) hg9 hown9 (by simpa using p5) (by simpa using p7) (fun q h1 h2 => by
                have a := (own5.lt q h1).2
                have b := (own7.lt q h2).1
                omega) (fun j u q hj hq => by
                have := st.lt (Nat.le_refl _) hj hq
                exact ⟨fun e => by have := (own5.lt q e).1; omega, fun e => by have := (own7.lt q e).1; omega⟩)
              have bT9 := Blk.apart bT4 st4.own (by decide) hg9
              have hx9 : Ext V w9 := hx4.grown hg9 (fun q hq => (st4.own.lt q hq).1)
              have q9 := bT9.cell 1
              have qf := bT9.frozen 1
              simp only [List.getElem?_toArray, List.getElem?_cons_zero, List.getElem?_cons_succ] at q9
              have HS9 : Hid (CpM V (ts ++ [⟨trim L1, trim L2⟩]) (ts ++ [(⟨trim L1, trim L2⟩ : TapeD)]).length (.slice A9 (ts.length + 1) c9) (cl ++ [.slice A5' n5 c5', .slice A7' n7 c7']) (w9.setCell ⟨g + 1 + 1 + 1 + 1, 1, none⟩ (.slice A9 (ts.length + 1) c9))) := Lib.hid (by
                rw [List.length_append, List.length_singleton]
                exact st5.set bT9 1 _)
              have HX9 := Lib.hid (hx9.setCell (p := ⟨g + 1 + 1 + 1 + 1, 1, none⟩) (by show V.heap.size ≤ g + 1 + 1 + 1 + 1; rw [HVS.out]; exact Nat.le_refl _) (.slice A9 (ts.length + 1) c9))
              have HC9 := Lib.hid (bT9.set_ 1 (.slice A9 (ts.length + 1) c9))
              have hmk : m.tp.toNat - (k + 1) < m.tp.toNat - k := by omega
              clear st4 st5 hown9 hg9 bT4 bT9 hx9 p5 p7 own5 own7 eA hXr7 st
              go_wp2_with fail
              go_roundw
              case rel => exact ⟨k + 1, _, _, _, by omega, by go_num, HG.out, HS9.out, HX9.out, HC9.out⟩
              case measure => simp [intOf]; omega
          · have hZ := hZ2 hcc
            subst hZ
            clear hZ1 hZ2
            go_wp2_with fail
            refine IX.mono ?_
            rintro e w' ⟨rfl, rfl⟩
            clear IX
            go_wp2_with fail
            refine HS.mono ?_
            rintro e w' ⟨rfl, rfl⟩
            clear HS
            cases an with
            | true =>
              have HE : Hid (R = (⟨0, []⟩, 9)) := Lib.hid (HFA.out (HTW.out HAN.out))
              have ob := bO1.cell
              have of_ := bO1.frozen
              go_wp2_with fail
              rw [HE.out]
              exact bodyPost_ret (v := .tuple #[.agg #[.int .i64 0, .slice none 0 0], .int .i64 9]) (by simp [results, Tryz.results37, go_sem, ob]) rfl (DecRes.fail hb3 hXw1 _ _)
            | false =>
              have ht := HON.out HAN.out
              rw [hxg] at ht
              have HG := Lib.hid (HGO.out _ ht)
              have o1 := HOU.out
              rw [HN.out] at o1
              have hlN := HN.out
              go_upto_region 13 with fail
              have zD := Ext.drew w1
              have oD := OwnInts.ext o1 zD
              have oE : w1.drew.ownsRow wr.heap.size 2 1 (.slice (some ⟨gu, 0, none⟩) line.length cu) line.length (ivs line) := OwnInts.ext HOU.out zD
              have s1 := zD.cell hb1
              have k0 : w1.drew.cell? ⟨gu, hd, none⟩ = some (.int .i64 x) := by
                rw [World.ownsRow.cellAt oE hd (by omega)]
                simp only [ivs, List.getElem?_map]
                rw [HXG.out]
                rfl
              have kf := World.ownsRow.frozenAt oE hd
              refine wp_region_ordT 8 (readsT [0, 1, 2, 3, 4, 5, 6, 7] .done) (by kernel_rfl) (by kernel_rfl) (fun _ _ _ _ _ h => h) ?_
              simp only [readsT]
              iterate 8 (refine wpOrdT_read (v := ?_) (by rfl) (Or.inl ⟨by rfl, fun x hx => ?_⟩) ?_; rotate_left; (· have u0 := hx.cell k0; have u1 := hx.cell s1; go_simp; try with_reducible rfl); try simp only [Act.put, List.setIfInBounds_toArray, List.set_cons_zero, List.set_cons_succ])
              refine wpOrdT_done ?_
              try simp only [List.drop_succ_cons, List.drop_zero]
              change wpList _ _ _ _ _ w1.drew
              have hXY := hX1.trans zD
              have hlow : wr.heap.size ≤ w1.drew.heap.size := HX1.out.size
              have hXr := HX1.out.trans zD
              clear hb1 s1 oE
              generalize w1.drew = Y at *
              obtain ⟨S, hS⟩ : ∃ S, S = Y.setCell ⟨gu, hd, none⟩ (.int .i64 (x - m.sy)) := ⟨_, rfl⟩
              have oS := own_put oD HN.out.symm (k := hd) (by omega) (x - m.sy)
              rw [← hS] at oS
              have hXS : Ext wr S := by rw [hS]; exact hXr.setCell (p := ⟨gu, hd, none⟩) hgu1 _
              go_upto_region 14 with fail
              try rw [← hS]
              clear hS k0 kf oD
              have HSL : (line.set hd (x - m.sy)).length = n := by rw [List.length_set]; exact hlN
              have i0' := oS.ints
              rw [← HSL] at i0'
              have i1' := i0'.take hd (by omega)
              rw [set_take] at i1'
              have i2' := ints_dropA oS.ints HSL.symm hd (by omega)
              rw [set_drop line hd _ (by omega), Nat.zero_add] at i2'
              try simp only [Nat.add_sub_cancel_left] at i2'
              have hlt1 : (line.take hd).reverse.length ≤ 1048576 := by rw [List.length_reverse, List.length_take]; have := HLE.out; omega
              have hlt0 : (line.take hd).length ≤ 1048576 := by rw [List.length_take]; have := HLE.out; omega
              have hlt2 : ((x - m.sy) :: line.drop (hd + 1)).length ≤ 1048576 := by rw [List.length_cons, List.length_drop]; have := HLE.out; omega
              have hS0 : wr.heap.size ≤ S.heap.size := hXS.size
              have zE := Ext.drew S
              have hVwr : V.heap.size ≤ wr.heap.size := hx.size
              have bT1 := bT.ext (hXS.trans zE)
              have t1 := bT1.cell 1
              simp only [List.getElem?_toArray, List.getElem?_cons_zero, List.getElem?_cons_succ] at t1
              have RV := reversed_c (.slice (some ⟨gu, 0, none⟩) hd cu) (line.take hd) S.drew (i1'.ext zE) (.inr ⟨_, _, _, _, rfl⟩) hlt0
              generalize hl1 : (line.take hd).reverse = L1 at *
              generalize hl2 : (x - m.sy) :: line.drop (hd + 1) = L2 at *
              have hcap : hd ≤ cu := by omega
              have hcapi : (hd : Int) ≤ (cu : Int) := by omega
              have hcn : hd ≤ n := by omega
              clear oS HSL i0' hl1 hl2
              refine wp_region_ordT 14 (readsT [0, 1, 2, 3, 4, 7, 8, 9] (.stir 5 (.stir 6 (.stir 10 (.stir 11 (readsT [12] (.stir 13 .done))))))) (by kernel_rfl) (by kernel_rfl) (fun _ _ _ _ _ h => h) ?_
              simp only [readsT]
              iterate 8 (refine wpOrdT_read (v := ?_) (by rfl) (Or.inl ⟨by rfl, fun x hx => ?_⟩) ?_; rotate_left; (· have u0 := hx.cell t1; go_simp; try with_reducible rfl); try simp only [Act.put, List.setIfInBounds_toArray, List.set_cons_zero, List.set_cons_succ])
              refine wpOrdT_stir (by rfl) (fun K hK => ?_)
              go_simp
              go_at_call 74
              refine RV.mono ?_
              rintro e w5 ⟨u5, rfl, ho5, hx5⟩
              refine hK _ _ hx5 ?_
              clear hK K RV
              try simp only [Act.put, List.setIfInBounds_toArray, List.set_cons_zero, List.set_cons_succ]
              have hf5 := ho5.flat
              obtain ⟨A5', c5', rfl, _, _⟩ := ho5.ints.form
              have TR := trimmed_c _ L1 w5 ho5.ints hlt1
              have own5 := own_trim ho5
              refine wpOrdT_stir (by rfl) (fun K hK => ?_)
              go_simp
              go_at_call 66
              refine TR.mono ?_
              rintro e w6 ⟨⟨A5, c5, hu5, rfl⟩, rfl⟩
              injection hu5 with h1 h2 h3
              subst h1 h3
              refine hK _ _ (Ext.refl _) ?_
              clear hK K TR hf5 ho5
              try simp only [Act.put, List.setIfInBounds_toArray, List.set_cons_zero, List.set_cons_succ]
              obtain ⟨n5, hn5⟩ : ∃ n5, trimN L1 L1.length = n5 := ⟨_, rfl⟩
              rw [hn5] at own5
              try rw [hn5]
              clear hn5
              have CL := CloneF_c (.slice (some ⟨gu, hd, none⟩) (n - hd) (cu - hd)) L2 w5 (i2'.ext (zE.trans hx5)) (.inr ⟨_, _, _, _, rfl⟩) hlt2
              refine wpOrdT_stir (by rfl) (fun K hK => ?_)
              go_simp
              go_at_call 75
              refine CL.mono ?_
              rintro e w7 ⟨u7, rfl, ho7, _, hx7⟩
              refine hK _ _ hx7 ?_
              clear hK K CL
              try simp only [Act.put, List.setIfInBounds_toArray, List.set_cons_zero, List.set_cons_succ]
              obtain ⟨A7', c7', rfl, _, _⟩ := ho7.ints.form
              have TR := trimmed_c _ L2 w7 ho7.ints hlt2
              have own7 := own_trim ho7
              refine wpOrdT_stir (by rfl) (fun K hK => ?_)
              go_simp
              go_at_call 66
              refine TR.mono ?_
              rintro e w8 ⟨⟨A7, c7, hu7, rfl⟩, rfl⟩
              injection hu7 with h1 h2 h3
              subst h1 h3
              refine hK _ _ (Ext.refl _) ?_
              clear hK K TR ho7
              try simp only [Act.put, List.setIfInBounds_toArray, List.set_cons_zero, List.set_cons_succ]
              obtain ⟨n7, hn7'⟩ : ∃ n7, trimN L2 L2.length = n7 := ⟨_, rfl⟩
              rw [hn7'] at own7
              try rw [hn7']
              clear hn7'
              iterate 1 (refine wpOrdT_read (v := ?_) (by rfl) (Or.inl ⟨by rfl, fun x hx => ?_⟩) ?_; rotate_left; (· go_simp; try with_reducible rfl); try simp only [Act.put, List.setIfInBounds_toArray, List.set_cons_zero, List.set_cons_succ])
              refine wpOrdT_stir (by rfl) (fun K hK => ?_)
              go_simp
              refine hK _ _ (Ext.alloc _ _) ?_
              clear hK K
              try simp only [Act.put, List.setIfInBounds_toArray, List.set_cons_zero, List.set_cons_succ]
              refine wpOrdT_done ?_
              try simp only [List.drop_succ_cons, List.drop_zero]
              have hts3 : ts.length ≤ 3 := by have := decTapes_len HD.out; omega
              have eA := Ext.alloc w7 (.cells #[.slice A5' n5 c5', .slice A7' n7 c7'] 110)
              have hXr7 : Ext wr w7 := hXS.trans (zE.trans (hx5.trans hx7))
              have st4 := (st.ext hXr7).ext eA
              have hVS : V.heap.size ≤ S.drew.heap.size := Nat.le_trans hVwr (hXS.trans zE).size
              have hs57 : S.drew.heap.size ≤ w5.heap.size := hx5.size
              have hs7 : w5.heap.size ≤ w7.heap.size := hx7.size
              have hsr7 : wr.heap.size ≤ S.drew.heap.size := (hXS.trans zE).size
              have p5 : OwnInts V.heap.size (w7.alloc (.cells #[.slice A5' n5 c5', .slice A7' n7 c7'] 110)) (.slice A5' n5 c5') (trim L1) := OwnInts.ext (OwnInts.ext (ownsRow_base own5 hVS) hx7) eA
              have p7 : OwnInts V.heap.size (w7.alloc (.cells #[.slice A5' n5 c5', .slice A7' n7 c7'] 110)) (.slice A7' n7 c7') (trim L2) := OwnInts.ext (ownsRow_base own7 (Nat.le_trans hVS hs57)) eA
              have bT4 := (bT.ext hXr7).ext eA
              have hx4 := (hx.trans hXr7).trans eA
              go_wp2_with (at_builtin; refine wpList_append_own_at _ rfl _ _ 66 rfl V.heap.size 110 i0 (.agg #[.slice none 0 0, .slice none 0 0]) 2 48 Tryz.underlying66 hi0 hz0 hz1 hz2 rfl (by decide) _ _ cl rfl st4.own ⟨w7.heap.size, 0, none⟩ 1 1 [.slice A5' n5 c5', .slice A7' n7 c7'] rfl rfl (World.news_of_block (heap_alloc_new w7 _)) ?c2 ?c3 ?c4 ?c5 ?_)
              case c2 => first | exact ⟨rfl, rfl⟩ | (intro u hu; simp at hu; rcases hu with rfl | rfl <;> rfl)
              case c3 => unfold maxLen; omega
              case c4 => omega
              case c5 => have := (hx.trans hXr7).size; first | omega | (simp; omega)
              intro v' w9 hown9 hg9 _ _
              obtain ⟨A9, c9, rfl, _, _, _⟩ := (ownsRow_row hown9).form
              have st5 := (st4.widen ⟨trim L1, trim L2⟩).push (lv := .slice A5' n5 c5') (rv := .slice A7' n7 c7') (by simp) hg9 hown9 (by simpa using p5) (by simpa using p7) (fun q h1 h2 => by
                have a := (own5.lt q h1).2
                have b := (own7.lt q h2).1
                omega) (fun j u q hj hq => by
                have := st.lt (Nat.le_refl _) hj hq
                exact ⟨fun e => by have := (own5.lt q e).1; omega, fun e => by have := (own7.lt q e).1; omega⟩)
              have bT9 := Blk.apart bT4 st4.own (by decide) hg9
              have hx9 : Ext V w9 := hx4.grown hg9 (fun q hq => (st4.own.lt q hq).1)
              have q9 := bT9.cell 1
              have qf := bT9.frozen 1
              simp only [List.getElem?_toArray, List.getElem?_cons_zero, List.getElem?_cons_succ] at q9
              have HS9 : Hid (CpM V (ts ++ [⟨trim L1, trim L2⟩]) (ts ++ [(⟨trim L1, trim L2⟩ : TapeD)]).length (.slice A9 (ts.length + 1) c9) (cl ++ [.slice A5' n5 c5', .slice A7' n7 c7']) (w9.setCell ⟨g + 1 + 1 + 1 + 1, 1, none⟩ (.slice A9 (ts.length + 1) c9))) := Lib.hid (by
                rw [List.length_append, List.length_singleton]
                exact st5.set bT9 1 _)
              have HX9 := Lib.hid (hx9.setCell (p := ⟨g + 1 + 1 + 1 + 1, 1, none⟩) (by show V.heap.size ≤ g + 1 + 1 + 1 + 1; rw [HVS.out]; exact Nat.le_refl _) (.slice A9 (ts.length + 1) c9))
              have HC9 := Lib.hid (bT9.set_ 1 (.slice A9 (ts.length + 1) c9))
              have hmk : m.tp.toNat - (k + 1) < m.tp.toNat - k := by omega
              clear st4 st5 hown9 hg9 bT4 bT9 hx9 p5 p7 own5 own7 eA hXr7 st
              go_wp2_with fail
              go_roundw
              case rel => exact ⟨k + 1, _, _, _, by omega, by go_num, HG.out, HS9.out, HX9.out, HC9.out⟩
              case measure => simp [intOf]; omega
      · have hkt : (k : Int) = m.tp := by omega
        have hkn : m.tp.toNat = k := by omega
        have HE : Hid (R = (⟨pa, ts⟩, 0)) := Lib.hid (by rw [HK.out, hkn, hdt])
        have bO1 := HBO.out.ext hx
        have ob := bO1.cell
        have of_ := bO1.frozen
        have t0 := bT.cell 0
        have t1 := bT.cell 1
        simp only [List.getElem?_toArray, List.getElem?_cons_zero, List.getElem?_cons_succ] at t0 t1
        have hge : ¬ (k : Int) < m.tp := by omega
        have ST := Lib.hid st
        clear hkt hkn hdt st bT hlt
        go_wp2
        rw [HE.out]
        exact bodyPost_ret (v := .tuple #[.agg #[.int .i64 pa, .slice Av ts.length cv], .int .i64 0]) (by simp [results, Tryz.results37, go_sem, ob]) rfl (DecRes.done hb3 hXwr (ST.out.base HXV.out.size) bO1 _ _)
  · have HE : Hid (R = (⟨0, []⟩, 6)) := Lib.hid (by rw [HR.out]; unfold decOne; simp only; rw [if_neg hk])
    have ob := bOV.cell
    have of_ := bOV.frozen
    go_wp2
    rw [HE.out]
    exact bodyPost_ret (v := .tuple #[.agg #[.int .i64 0, .slice none 0 0], .int .i64 6]) (by simp [results, Tryz.results37, go_sem, ob]) rfl (DecRes.fail hb3 hXVw _ _)
end Go.Proofs.YtfghojbbofobeaaGreatDoor
end
section
set_option linter.unusedSimpArgs false
set_option linter.unusedVariables false
namespace Go.Proofs.YtfghojbbofobeaaGreatDoor
open Go Go.RowKit Go.Proofs Go.Maps
set_option maxHeartbeats 400000
theorem side_allM {xs : List Int} {sy : Int} (h : sideOk xs sy 200 = true) : xs.length ≤ 200 ∧ ∀ z ∈ xs, 0 ≤ z ∧ z ≤ sy - 1 := by
  unfold sideOk at h
  simp only [Bool.and_eq_true, decide_eq_true_eq, List.all_eq_true] at h
  refine ⟨by omega, fun z hz => ?_⟩
  have := h.1.2 z hz
  simpa [inB] using this
theorem conf_allM {sy st : Int} {rs : List RuleD} {c : ConfD} (h : confB ⟨sy, st, rs⟩ c = true) : (0 ≤ c.q ∧ c.q < st) ∧ (c.l.length ≤ 200 ∧ ∀ z ∈ c.l, 0 ≤ z ∧ z ≤ sy - 1) ∧ (c.r.length ≤ 200 ∧ ∀ z ∈ c.r, 0 ≤ z ∧ z ≤ sy - 1) := by
  simp only [confB, Bool.and_eq_true, inB, decide_eq_true_eq] at h
  exact ⟨by omega, side_allM h.1.2, side_allM h.2⟩
end Go.Proofs.YtfghojbbofobeaaGreatDoor
end
section
set_option linter.unusedSimpArgs false
set_option linter.unusedVariables false
namespace Go.Proofs.YtfghojbbofobeaaGreatDoor
open Go Go.RowKit Go.Proofs Go.Maps
set_option maxHeartbeats 400000
theorem mpGuard : Tryz.prog.eqGuardType Tryz.prog.depth 88 = false := by kernel_rfl
theorem mpLits (p : MP) (hs : SmM p) : p.v.formed Tryz.prog 88 = true ∧ Tryz.prog.keyLits (Tryz.prog.types.size + 1) 88 p.v.cells.toList = some [.int .i64 p.k, .int .i64 p.a, .int .i64 p.t, .int .i64 p.c, .int .i64 p.f0, .int .i64 p.f1, .int .i64 p.f2, .int .i64 p.d] := by
  obtain ⟨h0, h1, h2, h3, h4, h5, h6, h7⟩ := hs
  have w0 := smallM_wf h0
  have w1 := smallM_wf h1
  have w2 := smallM_wf h2
  have w3 := smallM_wf h3
  have w4 := smallM_wf h4
  have w5 := smallM_wf h5
  have w6 := smallM_wf h6
  have w7 := smallM_wf h7
  have c8 : Tryz.prog.cellsOf 88 = 8 := by kernel_rfl
  have c3 : Tryz.prog.cellsOf 86 = 3 := by kernel_rfl
  have c1 : Tryz.prog.cellsOf 2 = 1 := by kernel_rfl
  obtain ⟨d, hd⟩ : ∃ d, Tryz.prog.types.size = d + 2 := ⟨Tryz.prog.types.size - 2, by decide +kernel⟩
  refine ⟨by simp [Value.formed, MP.v, Tryz.underlying88, c8], ?_⟩
  rw [hd]
  simp [Program.keyLits, MP.v, Value.cells, Tryz.underlying88, Tryz.underlying86, Tryz.underlying2, c8, c3, c1, w0, w1, w2, w3, w4, w5, w6, w7, show List.range 3 = [0, 1, 2] from rfl]
theorem mpNeq_run (w : World) (p q : MP) (hp : SmM p) (hq : SmM q) : (binOp .neq 88 p.v q.v).run Tryz.prog w = .ok (.bool (decide (p ≠ q))) w := by
  obtain ⟨f1, l1⟩ := mpLits p hp
  obtain ⟨f2, l2⟩ := mpLits q hq
  have hk : Tryz.prog.keyTypeAt 8 88 = true := by kernel_rfl
  obtain ⟨r, hr, hiff⟩ := run_equalIn_deep (P := Tryz.prog) 9992 8 88 hk w _ _ p.v q.v _ _ f1 f2 l1 l2
  have e : (binOp .neq 88 p.v q.v).run Tryz.prog w = ((Op.equalIn 10000 88 p.v q.v).run Tryz.prog w).andThen fun b w' => .ok (.bool (!b)) w' := by
    unfold MP.v
    exact run_neq_struct ..
  rw [e, show (10000 : Nat) = 9992 + 8 from rfl, hr]
  have hb : (!r) = decide (p ≠ q) := by
    cases r with
    | true =>
      have h := hiff.1 rfl
      simp at h
      obtain ⟨a, b, c, d, e, f, g, i⟩ := h
      have : p = q := by
        cases p; cases q
        simp_all
      simp [this]
    | false =>
      have h : ¬ p = q := fun e => by
        subst e
        exact absurd (hiff.2 rfl) (by simp)
      simp [h]
  show Result.ok _ _ = _
  rw [hb]
/-- What the closure of OneTapeTexts needs of its variables. -/
structure OtEnv (w : World) (bv bp : Nat) (m : MultiD) (s : List MP × List RuleD) : Prop where
  ptr : ∃ bx base rv pv bm, Blk w bv 78 #[.pointer (some ⟨bx, 0, none⟩)] ∧ PlM base w bx (2 * m.sy) s.1.length s.2 s.1 rv pv bm
  mac : ∃ A c, Blk w bp 33 #[.int .i64 m.tp, .int .i64 m.sy, .int .i64 m.st, .slice A m.rules.length c]
theorem OtEnv.ext {w w' : World} {bv bp : Nat} {m : MultiD} {s : List MP × List RuleD} (h : OtEnv w bv bp m s) (he : Ext w w') : OtEnv w' bv bp m s := by
  obtain ⟨⟨bx, base, r2, pv, bm, h2, h3⟩, A, c, h1⟩ := h
  exact ⟨⟨bx, base, r2, pv, bm, h2.ext he, h3.ext he⟩, A, c, h1.ext he⟩
theorem lookP_small {m : MultiD} (hm : multiOk m = true) {p : MP} (hp : WOk m p) : SmM (lookP p.a) := by
  have h := hp.small hm
  have z : smallM 0 := ⟨by decide, by decide⟩
  exact ⟨z, h.2.1, z, z, z, z, z, z⟩
set_option maxRecDepth 20000 in
set_option maxHeartbeats 4000000 in
theorem oneText_c (bv bp : Nat) (m : MultiD) (s : List MP × List RuleD) (c : ConfD) (lv qv : Value) (w : World) (hm : multiOk m = true) (hok : ∀ p ∈ s.1, WOk m p) (hE : OtEnv w bv bp m s) (hc : confB (oneM m s) c = true) (hl : Ints w lv c.l) (hq : Ints w qv c.r) (fl : Flat lv) (fr : Flat qv) (hT : Tab w) :
    Calls Tryz.prog 35 #[.agg #[.int .i64 c.q, lv, qv], .pointer (some ⟨bv, 0, none⟩), .pointer (some ⟨bp, 0, none⟩)] w fun e w' => e = .returned (.string (bsS (txtO m s c))) ∧ Ext w w' := by
  obtain ⟨Al, cl, rfl, _, _⟩ := hl.form
  obtain ⟨Aq, cq, rfl, _, _⟩ := hq.form
  obtain ⟨⟨q0, q1⟩, ⟨b1, b2⟩, ⟨b3, b4⟩⟩ := conf_allM (sy := 2 * m.sy) (st := (s.1.length : Int)) (rs := s.2) hc
  obtain ⟨i, hi⟩ : ∃ i : Nat, c.q = i := ⟨c.q.toNat, by omega⟩
  have hil : i < s.1.length := by omega
  obtain ⟨p, hp⟩ : ∃ p, s.1[i]? = some p := ⟨_, List.getElem?_eq_getElem hil⟩
  have hpk : WOk m p := hok p (List.mem_of_getElem? hp)
  have HTX : Hid (txtO m s c = txtW m p c) := Lib.hid (by
    unfold txtO
    rw [hi, Int.toNat_natCast, List.getD_eq_getElem?_getD, hp]
    rfl)
  have hB1 : ∀ z ∈ c.l, 0 ≤ z ∧ z ≤ 2 * m.sy - 1 := fun z hz => by have := b2 z hz; omega
  have hB2 : ∀ z ∈ c.r, 0 ≤ z ∧ z ≤ 2 * m.sy - 1 := fun z hz => by have := b4 z hz; omega
  have HDG : Hid ((decOne m p c).2 = 0 → MDig (decOne m p c).1 ∧ 0 < (decOne m p c).1.tapes.length) := Lib.hid (decOne_dig hm hpk b1 b3 hB1 hB2)
  have HB1 := Lib.hid hB1
  have HB2 := Lib.hid hB2
  have NQ := fun w' => mpNeq_run w' p (lookP p.a) (hpk.small hm) (lookP_small hm hpk)
  obtain ⟨nb, hnb⟩ : ∃ nb, decide (p ≠ lookP p.a) = nb := ⟨_, rfl⟩
  rw [hnb] at NQ
  have HNB : Hid ((nb = false → p = lookP p.a) ∧ (nb = true → p ≠ lookP p.a)) := Lib.hid ⟨fun h => by simpa [h] using hnb, fun h => by simpa [h] using hnb⟩
  clear hnb
  obtain ⟨g, hg⟩ : ∃ g, w.heap.size = g := ⟨_, rfl⟩
  obtain ⟨W, hW⟩ : ∃ W, W = w.alloc (.cells #[.int .i64 c.q, .slice Al c.l.length cl, .slice Aq c.r.length cq] 52) := ⟨_, rfl⟩
  have hX : Ext w W := by rw [hW]; exact Ext.alloc _ _
  have HWS : Hid (W.heap.size = g + 1) := Lib.hid (by rw [hW]; simp [hg])
  have bC : Blk W g 52 #[.int .i64 c.q, .slice Al c.l.length cl, .slice Aq c.r.length cq] := by rw [hW]; exact Blk.new _ _ _ _ hg
  obtain ⟨⟨bx, base, r2, pv, bm, bP, hst⟩, Am, cm, bM⟩ := hE.ext hX
  obtain ⟨Ap, cp, rfl, hp1, hp2, _⟩ := (ownsRow_row hst.places).form
  obtain ⟨gp, rfl, _, _, hP⟩ := placesM_at hst.places hp
  have DO := fun X (hx : Ext W X) => decodeOneTape_c base X m (.slice Am m.rules.length cm) bx (2 * m.sy) s.1.length s.2 s.1 r2 _ bm c (.slice Al c.l.length cl) (.slice Aq c.r.length cq) i p (hst.ext hx) hm hi hp hpk (hl.ext (hX.trans hx)) (hq.ext (hX.trans hx)) fl fr b1 b3 HB1 HB2
  have x3 := hst.blk.cell 3
  have xp := bP.cell 0
  have c0 := bC.cell 0
  have c1 := bC.cell 1
  have c2 := bC.cell 2
  have m0 := bM.cell 0
  have m1 := bM.cell 1
  have m2 := bM.cell 2
  have m3 := bM.cell 3
  simp only [List.getElem?_toArray, List.getElem?_cons_zero, List.getElem?_cons_succ] at x3 xp c0 c1 c2 m0 m1 m2 m3
  have k0 := (hP 0 (by omega)).trans (by rfl)
  have k1 := (hP 1 (by omega)).trans (by rfl)
  have k2 := (hP 2 (by omega)).trans (by rfl)
  have k3 := (hP 3 (by omega)).trans (by rfl)
  have k4 := (hP 4 (by omega)).trans (by rfl)
  have k5 := (hP 5 (by omega)).trans (by rfl)
  have k6 := (hP 6 (by omega)).trans (by rfl)
  have k7 := (hP 7 (by omega)).trans (by rfl)
  simp only [Nat.add_zero] at k0
  have HT := Lib.hid (hT.ext hX)
  rw [HTX.out]
  obtain ⟨pk, pa, pt, pcn, pf0, pf1, pf2, pd⟩ := p
  simp only [MP.v, lookP] at NQ k0 k1 k2 k3 k4 k5 k6 k7
  rw [hi] at c0
  have zD := Ext.drew W
  have e3 := zD.cell x3
  have ep := zD.cell xp
  have e0 := zD.cell c0
  have h0 := zD.cell k0
  have h1 := zD.cell k1
  have h2 := zD.cell k2
  have h3 := zD.cell k3
  have h4 := zD.cell k4
  have h5 := zD.cell k5
  have h6 := zD.cell k6
  have h7 := zD.cell k7
  have HI := Lib.hid hi
  have i1 : (0 : Int) ≤ (i : Int) := by omega
  have i2 : (i : Int) < (s.1.length : Int) := by omega
  clear hi hp hP hE hst hok hc b2 b4 hB1 hB2 q0 q1 hpk
  go_enter Tryz.func35, Tryz.ntmps35
  go_upto_region 1 with fail
  try rw [← hW]
  try rw [hg]
  clear hW
  refine wp_region_ordT 9 (readsT [0, 1, 2, 3, 4, 5, 6, 7] (.stir 8 .done)) (by kernel_rfl) (by kernel_rfl) (fun _ _ _ _ _ h => h) ?_
  simp only [readsT]
  iterate 8 (refine wpOrdT_read (v := ?_) (by rfl) (Or.inl ⟨by rfl, fun x hx => ?_⟩) ?_; rotate_left; (· have u0 := hx.cell h0; have u1 := hx.cell h1; have u2 := hx.cell h2; have u3 := hx.cell h3; have u4 := hx.cell h4; have u5 := hx.cell h5; have u6 := hx.cell h6; have u7 := hx.cell h7; have v3 := hx.cell e3; have vp := hx.cell ep; have v0 := hx.cell e0; go_simp; try with_reducible rfl); try simp only [Act.put, List.setIfInBounds_toArray, List.set_cons_zero, List.set_cons_succ])
  refine wpOrdT_stir (by rfl) (fun K hK => ?_)
  go_simp
  refine hK _ _ (Ext.alloc _ _) ?_
  clear hK K
  try simp only [Act.put, List.setIfInBounds_toArray, List.set_cons_zero, List.set_cons_succ]
  refine wpOrdT_done ?_
  try simp only [List.drop_succ_cons, List.drop_zero]
  have hgs : W.heap.size = g + 1 := HWS.out
  have hDs : W.drew.heap.size = g + 1 := hgs
  obtain ⟨V, hV⟩ : ∃ V, V = (W.alloc (.cells #[.int .i64 pk, .int .i64 pa, .int .i64 pt, .int .i64 pcn, .int .i64 pf0, .int .i64 pf1, .int .i64 pf2, .int .i64 pd] 88)).drew := ⟨_, rfl⟩
  have hXV : Ext W V := by rw [hV]; exact (Ext.alloc _ _).trans (Ext.drew _)
  have bT : Blk V (g + 1) 88 #[.int .i64 pk, .int .i64 pa, .int .i64 pt, .int .i64 pcn, .int .i64 pf0, .int .i64 pf1, .int .i64 pf2, .int .i64 pd] := by rw [hV]; exact (Blk.new _ _ _ _ hgs).drew
  clear h0 h1 h2 h3 h4 h5 h6 h7 e3 ep e0 k0 k1 k2 k3 k4 k5 k6 k7
  have zV := Ext.drew V
  have q0 := bT.cell 0
  have q1 := bT.cell 1
  have q2 := bT.cell 2
  have q3 := bT.cell 3
  have q4 := bT.cell 4
  have q5 := bT.cell 5
  have q6 := bT.cell 6
  have q7 := bT.cell 7
  simp only [List.getElem?_toArray, List.getElem?_cons_zero, List.getElem?_cons_succ] at q0 q1 q2 q3 q4 q5 q6 q7
  have q0 := zV.cell q0
  have q1 := zV.cell q1
  have q2 := zV.cell q2
  have q3 := zV.cell q3
  have q4 := zV.cell q4
  have q5 := zV.cell q5
  have q6 := zV.cell q6
  have q7 := zV.cell q7
  have LK := look_c pa V.drew
  have hXVd := hXV.trans zV
  simp only [MP.v, lookP] at LK
  go_upto_region 2 with fail
  try rw [← hV]
  try rw [hDs]
  clear hV hDs
  refine wp_region_ordT 4 (readsT [0, 1, 2] (.stir 3 .done)) (by kernel_rfl) (by kernel_rfl) (fun _ _ _ _ _ h => h) ?_
  simp only [readsT]
  iterate 3 (refine wpOrdT_read (v := ?_) (by rfl) (Or.inl ⟨by rfl, fun x hx => ?_⟩) ?_; rotate_left; (· have u0 := hx.cell q0; have u1 := hx.cell q1; have u2 := hx.cell q2; have u3 := hx.cell q3; have u4 := hx.cell q4; have u5 := hx.cell q5; have u6 := hx.cell q6; have u7 := hx.cell q7; go_simp; try with_reducible rfl); try simp only [Act.put, List.setIfInBounds_toArray, List.set_cons_zero, List.set_cons_succ])
  refine wpOrdT_stir (by rfl) (fun K hK => ?_)
  go_simp
  go_at_call 36
  refine LK.mono ?_
  rintro e w1 ⟨rfl, hx1⟩
  refine hK _ _ hx1 ?_
  clear hK K LK
  try simp only [Act.put, List.setIfInBounds_toArray, List.set_cons_zero, List.set_cons_succ]
  refine wpOrdT_done ?_
  try simp only [List.drop_succ_cons, List.drop_zero]
  clear q0 q1 q2 q3 q4 q5 q6 q7
  have hX1 := hXVd.trans hx1
  have gd := mpGuard
  cases nb with
  | false =>
    have hpl := HNB.out.1 rfl
    have HT2 : Hid (txtW m ⟨pk, pa, pt, pcn, pf0, pf1, pf2, pd⟩ c = if (decOne m ⟨pk, pa, pt, pcn, pf0, pf1, pf2, pd⟩ c).2 = 0 then mconT (decOne m ⟨pk, pa, pt, pcn, pf0, pf1, pf2, pd⟩ c).1 else []) := Lib.hid (by
      unfold txtW
      exact if_pos hpl)
    have DO1 := DO w1 hX1
    obtain ⟨⟨⟨uq, uts⟩, uk⟩, hdec⟩ : ∃ q, decOne m ⟨pk, pa, pt, pcn, pf0, pf1, pf2, pd⟩ c = q := ⟨_, rfl⟩
    rw [hdec] at DO1 HT2 HDG
    have xp := hX1.cell xp
    have c0 := hX1.cell c0
    have c1 := hX1.cell c1
    have c2 := hX1.cell c2
    have m0 := hX1.cell m0
    have m1 := hX1.cell m1
    have m2 := hX1.cell m2
    have m3 := hX1.cell m3
    rw [HI.out] at DO1
    clear hpl DO hdec x3 HNB
    go_wp2_with fail
    refine DO1.mono ?_
    rintro e w2 ⟨v2, cl2, rfl, o2, hx2⟩
    clear DO1
    simp only at o2 ⊢
    by_cases hk : uk = 0
    · obtain ⟨hdg, hpos⟩ := HDG.out hk
      have hdt := hdg.t
      obtain ⟨g2, k2, rfl, hk2, hk3, hTF⟩ := o2.tapF hpos (fun t ht => by have := hdt t ht; exact ⟨by omega, by omega⟩)
      have hX2 := hX1.trans hx2
      obtain ⟨U, hU⟩ : ∃ U, U = w2.alloc (.cells #[.int .i64 uq, .slice (some ⟨g2, 0, none⟩) uts.length k2] 68) := ⟨_, rfl⟩
      have hXU : Ext w2 U := by rw [hU]; exact Ext.alloc _ _
      have MT := multiConfigText_c ⟨uq, uts⟩ g2 0 k2 U (hTF.ext hXU) hk2 hk3 hdg (HT.out.ext (hX2.trans hXU))
      have HT3 : Hid (txtW m ⟨pk, pa, pt, pcn, pf0, pf1, pf2, pd⟩ c = mconT ⟨uq, uts⟩) := Lib.hid (by rw [HT2.out]; exact if_pos hk)
      subst hk
      clear hdg hdt hpos hTF HDG HT2
      go_wp2_with fail
      try rw [← hU]
      clear hU
      refine MT.mono ?_
      rintro e w3 ⟨rfl, hx3⟩
      go_wp2
      go_ret
      rw [HT3.out]
      exact ⟨rfl, ((hX.trans hX2).trans hXU).trans hx3⟩
    · have HT3 : Hid (txtW m ⟨pk, pa, pt, pcn, pf0, pf1, pf2, pd⟩ c = []) := Lib.hid (by rw [HT2.out]; exact if_neg hk)
      have hne : (uk != 0) = true := by simpa using hk
      obtain ⟨A2, k2, rfl, _, _, _⟩ := (ownsRow_row o2.own).form
      clear HDG HT2 hk
      go_wp2
      go_ret
      rw [HT3.out]
      exact ⟨rfl, ((hX.trans hX1).trans hx2).trans (Ext.alloc _ _)⟩
  | true =>
    have hpl := HNB.out.2 rfl
    have HT2 : Hid (txtW m ⟨pk, pa, pt, pcn, pf0, pf1, pf2, pd⟩ c = []) := Lib.hid (by
      unfold txtW
      exact if_neg hpl)
    clear hpl DO HNB
    go_wp2
    go_ret
    rw [HT2.out]
    exact ⟨rfl, hX.trans hX1⟩
end Go.Proofs.YtfghojbbofobeaaGreatDoor
end
