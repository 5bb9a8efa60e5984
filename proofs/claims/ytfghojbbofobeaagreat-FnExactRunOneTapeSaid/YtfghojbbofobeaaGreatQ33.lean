/- Contract of the program's decoding of a configuration in a place of the machine with one tape.
Contract of the program's decoding of a configuration of the machine with one tape for several.
Contract of the program's run of a machine by its runner. The machine is valid and the configuration is one of its. -/
import Derived.Test.YtfghojbbofobeaaGreatQ25
import Derived.Test.YtfghojbbofobeaaGreatQ05
import Derived.Test.YtfghojbbofobeaaGreatQ11
import Derived.Test.YtfghojbbofobeaaGreatQ28
import Derived.Test.YtfghojbbofobeaaGreatQ07
section
set_option linter.unusedSimpArgs false
set_option linter.unusedVariables false
namespace Go.Proofs.YtfghojbbofobeaaGreat
open Go Go.RowKit Go.Proofs Go.Maps
set_option maxHeartbeats 400000
set_option maxRecDepth 20000 in
set_option maxHeartbeats 4000000 in
theorem decodeOneTape_c (base : Nat) (w : World) (m : MultiD) (rvm : Value) (bx : Nat) (sy' N : Int) (rs : List RuleD) (ps : List MP) (rv pv : Value) (bm : Nat) (c : ConfD) (lv qv : Value) (i : Nat) (p : MP)
    (h : PlM base w bx sy' N rs ps rv pv bm) (hm : multiOk m = true) (hq : c.q = i) (hi : ps[i]? = some p) (hp : WOk m p) (hl : Ints w lv c.l) (hr : Ints w qv c.r) (fl : Flat lv) (fr : Flat qv) (hL : c.l.length ≤ 200) (hR : c.r.length ≤ 200)
    (hB1 : Hid (∀ z ∈ c.l, 0 ≤ z ∧ z ≤ 2 * m.sy - 1)) (hB2 : Hid (∀ z ∈ c.r, 0 ≤ z ∧ z ≤ 2 * m.sy - 1)) :
    Calls Tryz.prog 33 #[.agg #[.int .i64 m.tp, .int .i64 m.sy, .int .i64 m.st, rvm], .pointer (some ⟨bx, 0, none⟩), .agg #[.int .i64 c.q, lv, qv]] w (DecRes w (decOne m p c)) := by
  obtain ⟨i0, hi0, hz0, hz1, hz2⟩ := info_parts tapeInfo
  obtain ⟨⟨tp1, tp2⟩, ⟨y1, y2⟩, _⟩ := multi_all hm
  have hil : i < ps.length := (List.getElem?_eq_some_iff.1 hi).1
  obtain ⟨Ap, cp, rfl, hp1, hp2, _⟩ := (ownsRow_row h.places).form
  obtain ⟨gp, rfl, _, _, hP⟩ := placesM_at h.places hi
  obtain ⟨Al, cl1, rfl, _, _⟩ := hl.form
  obtain ⟨Ar, cr, rfl, _, _⟩ := hr.form
  have ht0 : 0 ≤ p.t := hp.t0
  have ht1 : p.t < m.tp := hp.t1
  obtain ⟨R, hR⟩ : ∃ R, R = decOne m p c := ⟨_, rfl⟩
  rw [← hR]
  have HR := Lib.hid hR
  obtain ⟨g, hg⟩ : ∃ g, w.heap.size = g := ⟨_, rfl⟩
  obtain ⟨W, hW⟩ : ∃ W, W = ((w.alloc (.cells #[.int .i64 m.tp, .int .i64 m.sy, .int .i64 m.st, rvm] 35)).alloc (.cells #[.int .i64 c.q, .slice Al c.l.length cl1, .slice Ar c.r.length cr] 54)).alloc (.cells #[.int .i64 0, .slice none 0 0] 30) := ⟨_, rfl⟩
  have hXW : Ext w W := by rw [hW]; exact ((Ext.alloc _ _).trans (Ext.alloc _ _)).trans (Ext.alloc _ _)
  have bM : Blk W g 35 #[.int .i64 m.tp, .int .i64 m.sy, .int .i64 m.st, rvm] := by rw [hW]; exact ((Blk.new _ _ _ _ hg).alloc _).alloc _
  have bC : Blk W (g + 1) 54 #[.int .i64 c.q, .slice Al c.l.length cl1, .slice Ar c.r.length cr] := by rw [hW]; exact (Blk.new _ _ _ _ (by simp [hg])).alloc _
  have bO : Blk W (g + 1 + 1) 30 #[.int .i64 0, .slice none 0 0] := by rw [hW]; exact Blk.new _ _ _ _ (by simp [hg])
  have hWs : W.heap.size = g + 1 + 1 + 1 := by rw [hW]; simp [hg]
  have hb3 : w.heap.size ≤ g + 1 + 1 := by omega
  have zD := Ext.drew W
  have hXD := hXW.trans zD
  have x3 := (h.blk.ext hXD).cell 3
  have c0 := (bC.ext zD).cell 0
  have p0 := hXD.cell ((hP 0 (by omega)).trans (by rfl))
  have p1 := hXD.cell ((hP 1 (by omega)).trans (by rfl))
  have p2 := hXD.cell ((hP 2 (by omega)).trans (by rfl))
  have p3 := hXD.cell ((hP 3 (by omega)).trans (by rfl))
  have p4 := hXD.cell ((hP 4 (by omega)).trans (by rfl))
  have p5 := hXD.cell ((hP 5 (by omega)).trans (by rfl))
  have p6 := hXD.cell ((hP 6 (by omega)).trans (by rfl))
  have p7 := hXD.cell ((hP 7 (by omega)).trans (by rfl))
  simp only [List.getElem?_toArray, List.getElem?_cons_zero, List.getElem?_cons_succ, Nat.add_zero] at x3 c0 p0
  have i1 : (0 : Int) ≤ (i : Int) := by omega
  have i2 : (i : Int) < (ps.length : Int) := by omega
  rw [hq] at c0
  rw [hq] at hW
  rw [hq]
  have HQ := Lib.hid hq
  have HP := Lib.hid hp
  have HH := Lib.hid h
  clear hR hi hq hP hp h
  obtain ⟨pk, pa, pt, pc, pf0, pf1, pf2, pd⟩ := p
  simp only at p0 p1 p2 p3 p4 p5 p6 p7 ht0 ht1
  go_enter Tryz.func33, Tryz.ntmps33
  go_upto_region 1 with fail
  try rw [← hW]
  try rw [hg]
  clear hW
  refine wp_region_ordT 9 (readsT [0, 1, 2, 3, 4, 5, 6, 7] (.stir 8 .done)) (by kernel_rfl) (by kernel_rfl) (fun _ _ _ _ _ h => h) ?_
  simp only [readsT]
  iterate 8 (refine wpOrdT_read (v := ?_) (by rfl) (Or.inl ⟨by rfl, fun x hx => ?_⟩) ?_; rotate_left; (· have u0 := hx.cell p0; have u1 := hx.cell p1; have u2 := hx.cell p2; have u3 := hx.cell p3; have u4 := hx.cell p4; have u5 := hx.cell p5; have u6 := hx.cell p6; have u7 := hx.cell p7; have u8 := hx.cell x3; have u9 := hx.cell c0; go_simp; try with_reducible rfl); try simp only [Act.put, List.setIfInBounds_toArray, List.set_cons_zero, List.set_cons_succ])
  refine wpOrdT_stir (by rfl) (fun K hK => ?_)
  go_simp
  refine hK _ _ (Ext.alloc _ _) ?_
  clear hK K
  try simp only [Act.put, List.setIfInBounds_toArray, List.set_cons_zero, List.set_cons_succ]
  refine wpOrdT_done ?_
  try simp only [List.drop_succ_cons, List.drop_zero]
  have hDs : W.drew.heap.size = g + 1 + 1 + 1 := hWs
  obtain ⟨V, hV⟩ : ∃ V, V = (W.alloc (.cells #[.int .i64 pk, .int .i64 pa, .int .i64 pt, .int .i64 pc, .int .i64 pf0, .int .i64 pf1, .int .i64 pf2, .int .i64 pd] 120)).drew := ⟨_, rfl⟩
  have hXV : Ext W V := by rw [hV]; exact (Ext.alloc _ _).trans (Ext.drew _)
  have bP : Blk V (g + 1 + 1 + 1) 120 #[.int .i64 pk, .int .i64 pa, .int .i64 pt, .int .i64 pc, .int .i64 pf0, .int .i64 pf1, .int .i64 pf2, .int .i64 pd] := by rw [hV]; exact (Blk.new _ _ _ _ hWs).drew
  have hVs : V.heap.size = g + 1 + 1 + 1 + 1 := by
    have hh : ∀ o, (W.alloc o).drew.heap.size = g + 1 + 1 + 1 + 1 := fun o => by show (W.alloc o).heap.size = _; simp [hWs]
    rw [hV]; exact hh _
  clear p0 p1 p2 p3 p4 p5 p6 p7 x3 c0
  have q0 := bP.cell 0
  have q1 := bP.cell 1
  have q2 := bP.cell 2
  have m0 := (bM.ext hXV).cell 0
  simp only [List.getElem?_toArray, List.getElem?_cons_zero, List.getElem?_cons_succ] at q0 q1 q2 m0
  have hXVw : Ext w V := hXW.trans hXV
  have bOV := bO.ext hXV
  go_upto_region 2 with fail
  try rw [← hV]
  try rw [hDs]
  clear hV hDs zD hXD
  by_cases hk : pk = 0
  · subst hk
    have HK : Hid (R = match decTapes m c pt m.tp.toNat with | some ts => (⟨pa, ts⟩, 0) | none => (⟨0, []⟩, 9)) := Lib.hid (by rw [HR.out]; unfold decOne; simp only [if_true]; cases decTapes m c pt m.tp.toNat <;> rfl)
    obtain ⟨U, hU⟩ : ∃ U, U = V.alloc (.cells #[.int .i64 pa, .slice none 0 0] 30) := ⟨_, rfl⟩
    have hXU : Ext V U := by rw [hU]; exact Ext.alloc _ _
    have bT : Blk U (g + 1 + 1 + 1 + 1) 30 #[.int .i64 pa, .slice none 0 0] := by rw [hU]; exact Blk.new _ _ _ _ hVs
    have m0U := hXU.cell m0
    have HM0 := Lib.hid m0
    have HQ2 := Lib.hid q2
    have HXV := Lib.hid hXVw
    have HBM := Lib.hid (bM.ext hXV)
    have HBC := Lib.hid (bC.ext hXV)
    have HBO := Lib.hid (bO.ext hXV)
    have HLW := Lib.hid hl
    have HRW := Lib.hid hr
    have HMi := Lib.hid hm
    have HVS := Lib.hid hVs
    clear bM bC bO bOV hXV hXW hl hr hm
    go_wp2_with fail
    try rw [← hU]
    clear hU
    go_loopw [32] (fun u wr => ∃ (k : Nat) (ts : List TapeD) (v : Value) (cl : List Value), (k : Int) ≤ m.tp ∧ u = .int .i64 (k : Int) ∧ decTapes m c pt k = some ts ∧ CpM V ts ts.length v cl wr ∧ Ext V wr ∧ Blk wr (g + 1 + 1 + 1 + 1) 30 #[.int .i64 pa, v]) (fun u _ => m.tp.toNat - (intOf u).toNat)
    case atStart => exact ⟨0, [], _, [], by show (0 : Int) ≤ m.tp; omega, rfl, rfl, CpM.void _ _, hXU, bT⟩
    case round =>
      clear hXU bT m0U m0 q0 q1 q2 hVs
      obtain ⟨k, ts, v, cl, hk, rfl, hdt, st, hx, bT⟩ := hrel
      obtain ⟨Av, cv, rfl, _, _, _⟩ := (ownsRow_row st.own).form
      have hXwr := HXV.out.trans hx
      by_cases hlt : (k : Int) < m.tp
      · have HD := Lib.hid hdt
        clear hdt hk
        have b0 := (HBM.out.ext hx).cell 0
        have b1 := (HBM.out.ext hx).cell 1
        have b2 := (HBM.out.ext hx).cell 2
        have b3 := (HBM.out.ext hx).cell 3
        have d0 := (HBC.out.ext hx).cell 0
        have d1 := (HBC.out.ext hx).cell 1
        have d2 := (HBC.out.ext hx).cell 2
        have e2 := hx.cell HQ2.out
        simp only [List.getElem?_toArray, List.getElem?_cons_zero, List.getElem?_cons_succ] at b0 b1 b2 b3 d0 d1 d2
        have TC := tapeCells_c m rvm c (.slice Al c.l.length cl1) (.slice Ar c.r.length cr) pt (k : Int) wr HMi.out (HLW.out.ext hXwr) (HRW.out.ext hXwr) fl fr hL hR ht0 ht1 (by omega) hlt
        have hlen : (lineC m c pt (k : Int)).length ≤ 400 := by
          unfold lineC
          have h1 := lineT_len m.tp.toNat (frstC m.tp pt (k : Int) c.l.length) (cellsC c) (cellsC c).length
          have h2 : (cellsC c).length = c.l.length + c.r.length := by simp [cellsC]
          omega
        have HME : Hid (∀ z ∈ lineC m c pt (k : Int), 0 ≤ z ∧ z ≤ 2 * m.sy - 1) := Lib.hid (lineC_mem (by omega) hB1.out hB2.out)
        have HFA : Hid (tapeDec m.sy (lineC m c pt (k : Int)) = none → R = (⟨0, []⟩, 9)) := Lib.hid fun hh => by rw [HK.out, decTapes_fail hh (show k < m.tp.toNat by omega)]
        have HGO : Hid (∀ t, tapeDec m.sy (lineC m c pt (k : Int)) = some t → decTapes m c pt (k + 1) = some (ts ++ [t])) := Lib.hid fun t ht => decTapes_next HD.out ht
        obtain ⟨line, hli⟩ : ∃ line, lineC m c pt (k : Int) = line := ⟨_, rfl⟩
        rw [hli] at TC hlen HME HFA HGO
        clear hli
        go_wp2_with fail
        refine TC.mono ?_
        rintro e w1 ⟨u, rfl, ou, hx1⟩
        clear TC
        have hb1 : w1.cell? ⟨g, 1, none⟩ = some (.int .i64 m.sy) := hx1.cell b1
        have hX1 := hx.trans hx1
        have bO1 := HBO.out.ext hX1
        have hXw1 := HXV.out.trans hX1
        clear b0 b1 b2 b3 d0 d1 d2 e2
        have IX := idxM_c u line g m.sy w1 ou.ints hb1 (by omega)
        obtain ⟨Au, cu, rfl, hcu1, hcu2⟩ := id ou.ints.form
        cases hfi : line.findIdx? (markB m.sy) with
        | none =>
          have hz : ixM m.sy line = -1 := by unfold ixM; rw [hfi]
          have HE : Hid (R = (⟨0, []⟩, 9)) := Lib.hid (HFA.out (tapeDec_none hfi))
          rw [hz] at IX
          clear hfi hz
          have ob := bO1.cell
          have of_ := bO1.frozen
          go_wp2_with fail
          refine IX.mono ?_
          rintro e w' ⟨rfl, rfl⟩
          clear IX
          go_wp2_with fail
          rw [HE.out]
          exact bodyPost_ret (v := .tuple #[.agg #[.int .i64 0, .slice none 0 0], .int .i64 9]) (by simp [results, Tryz.results33, go_sem, ob]) rfl (DecRes.fail hb3 hXw1 _ _)
        | some hd =>
          have hz : ixM m.sy line = (hd : Int) := by unfold ixM; rw [hfi]
          obtain ⟨hdl, hmk, _⟩ := List.findIdx?_eq_some_iff_getElem.1 hfi
          obtain ⟨gu, rfl, hgu1, hgu2⟩ := own_at ou (by omega)
          rw [hz] at IX
          have hA : ∃ (Z : Value), (cu = hd + 1 → Z = .slice (some ⟨gu, 0, none⟩) 0 0) ∧ (cu ≠ hd + 1 → Z = .slice (some ⟨gu, hd + 1, none⟩) (line.length - (hd + 1)) (cu - (hd + 1))) ∧ Ints w1 Z (line.drop (hd + 1)) := by
            by_cases hcc : cu = hd + 1
            · refine ⟨_, fun _ => rfl, fun e => (e hcc).elim, ?_⟩
              have : line.drop (hd + 1) = [] := List.drop_eq_nil_of_le (by omega)
              rw [this]
              exact ints_void _
            · refine ⟨_, fun e => (hcc e).elim, fun _ => rfl, ?_⟩
              have := ints_dropA ou.ints rfl (hd + 1) (by omega)
              rwa [Nat.zero_add] at this
          obtain ⟨Z, hZ1, hZ2, hZi⟩ := hA
          have HS := hasM_c Z (line.drop (hd + 1)) g m.sy w1 hZi hb1 (by rw [List.length_drop]; omega)
          obtain ⟨x, hx0⟩ : ∃ x, line[hd] = x := ⟨_, rfl⟩
          have hxr : m.sy ≤ x ∧ x ≤ 2 * m.sy - 1 := by
            have h1 := HME.out _ (List.getElem_mem hdl)
            rw [hx0] at hmk h1
            exact ⟨of_decide_eq_true hmk, h1.2⟩
          have hxg : line.getD hd 0 = x := by rw [List.getD_eq_getElem?_getD, List.getElem?_eq_getElem hdl, ← hx0]; rfl
          have HXG : Hid (line[hd]? = some x) := Lib.hid (by rw [List.getElem?_eq_getElem hdl, hx0])
          have hw1 : IntKind.i64.wrap ((hd : Int) + 1) = (hd : Int) + 1 := IntWalk.i64_in _ (by omega)
          have hw2 : IntKind.i64.wrap (x - m.sy) = x - m.sy := IntWalk.i64_in _ (by omega)
          have hn1 : ¬ (hd : Int) < 0 := by omega
          have hn2 : ((hd : Int) + 1).toNat = hd + 1 := by omega
          have hn3 : (0 : Int) ≤ (hd : Int) + 1 := by omega
          have hn4 : (hd : Int) + 1 ≤ (line.length : Int) := by omega
          have hn5 : hd + 1 ≤ line.length := by omega
          have hn6 : (hd : Int) < (line.length : Int) := by omega
          have hn7 : ¬ cu = hd := by omega
          have HTW := Lib.hid (tapeDec_two hfi)
          have HON := Lib.hid (tapeDec_one hfi)
          have HOU := Lib.hid ou
          have HLE := Lib.hid hlen
          have HX1 := Lib.hid hx1
          obtain ⟨n, hn⟩ : ∃ n, line.length = n := ⟨_, rfl⟩
          have HN := Lib.hid hn
          rw [hn] at IX hcu1 hn4 hn5 hn6 hZ2 hdl
          rw [hn]
          obtain ⟨an, han⟩ : ∃ an, (line.drop (hd + 1)).any (markB m.sy) = an := ⟨_, rfl⟩
          rw [han] at HS
          have HAN := Lib.hid han
          clear hfi hz hmk hx0 ou hlen hn han hx1 hZi
          -- FORMS
          -- FORMS
          -- FORMS
          -- FORMS
          -- FORMS
          -- FORMS
          -- FORMS
          -- FORMS
          -- FORMS
          by_cases hcc : cu = hd + 1
          · have hZ := hZ1 hcc
            subst hZ
            clear hZ1 hZ2
            subst hcc
            go_wp2_with fail
            refine IX.mono ?_
            rintro e w' ⟨rfl, rfl⟩
            clear IX
            go_wp2_with fail
            refine HS.mono ?_
            rintro e w' ⟨rfl, rfl⟩
            clear HS
            cases an with
            | true =>
              have HE : Hid (R = (⟨0, []⟩, 9)) := Lib.hid (HFA.out (HTW.out HAN.out))
              have ob := bO1.cell
              have of_ := bO1.frozen
              go_wp2_with fail
              rw [HE.out]
              exact bodyPost_ret (v := .tuple #[.agg #[.int .i64 0, .slice none 0 0], .int .i64 9]) (by simp [results, Tryz.results33, go_sem, ob]) rfl (DecRes.fail hb3 hXw1 _ _)
            | false =>
              have ht := HON.out HAN.out
              rw [hxg] at ht
              have HG := Lib.hid (HGO.out _ ht)
              have o1 := HOU.out
              rw [HN.out] at o1
              have hlN := HN.out
              go_upto_region 13 with fail
              have zD := Ext.drew w1
              have oD := OwnInts.ext o1 zD
              have oE : w1.drew.ownsRow wr.heap.size 2 1 (.slice (some ⟨gu, 0, none⟩) line.length (hd + 1)) line.length (ivs line) := OwnInts.ext HOU.out zD
              have s1 := zD.cell hb1
              have k0 : w1.drew.cell? ⟨gu, hd, none⟩ = some (.int .i64 x) := by
                rw [World.ownsRow.cellAt oE hd (by omega)]
                simp only [ivs, List.getElem?_map]
                rw [HXG.out]
                rfl
              have kf := World.ownsRow.frozenAt oE hd
              refine wp_region_ordT 8 (readsT [0, 1, 2, 3, 4, 5, 6, 7] .done) (by kernel_rfl) (by kernel_rfl) (fun _ _ _ _ _ h => h) ?_
              simp only [readsT]
              iterate 8 (refine wpOrdT_read (v := ?_) (by rfl) (Or.inl ⟨by rfl, fun x hx => ?_⟩) ?_; rotate_left; (· have u0 := hx.cell k0; have u1 := hx.cell s1; go_simp; try with_reducible rfl); try simp only [Act.put, List.setIfInBounds_toArray, List.set_cons_zero, List.set_cons_succ])
              refine wpOrdT_done ?_
              try simp only [List.drop_succ_cons, List.drop_zero]
              change wpList _ _ _ _ _ w1.drew
              have hXY := hX1.trans zD
              have hlow : wr.heap.size ≤ w1.drew.heap.size := HX1.out.size
              have hXr := HX1.out.trans zD
              clear hb1 s1 oE
              generalize w1.drew = Y at *
              obtain ⟨S, hS⟩ : ∃ S, S = Y.setCell ⟨gu, hd, none⟩ (.int .i64 (x - m.sy)) := ⟨_, rfl⟩
              have oS := own_put oD HN.out.symm (k := hd) (by omega) (x - m.sy)
              rw [← hS] at oS
              have hXS : Ext wr S := by rw [hS]; exact hXr.setCell (p := ⟨gu, hd, none⟩) hgu1 _
              go_upto_region 14 with fail
              try rw [← hS]
              clear hS k0 kf oD
              have HSL : (line.set hd (x - m.sy)).length = n := by rw [List.length_set]; exact hlN
              have i0' := oS.ints
              rw [← HSL] at i0'
              have i1' := i0'.take hd (by omega)
              rw [set_take] at i1'
              have i2' := ints_dropA oS.ints HSL.symm hd (by omega)
              rw [set_drop line hd _ (by omega), Nat.zero_add] at i2'
              try simp only [Nat.add_sub_cancel_left] at i2'
              have hlt1 : (line.take hd).reverse.length ≤ 1048576 := by rw [List.length_reverse, List.length_take]; have := HLE.out; omega
              have hlt0 : (line.take hd).length ≤ 1048576 := by rw [List.length_take]; have := HLE.out; omega
              have hlt2 : ((x - m.sy) :: line.drop (hd + 1)).length ≤ 1048576 := by rw [List.length_cons, List.length_drop]; have := HLE.out; omega
              have hS0 : wr.heap.size ≤ S.heap.size := hXS.size
              have zE := Ext.drew S
              have hVwr : V.heap.size ≤ wr.heap.size := hx.size
              have bT1 := bT.ext (hXS.trans zE)
              have t1 := bT1.cell 1
              simp only [List.getElem?_toArray, List.getElem?_cons_zero, List.getElem?_cons_succ] at t1
              have RV := reversed_c (.slice (some ⟨gu, 0, none⟩) hd (hd + 1)) (line.take hd) S.drew (i1'.ext zE) (.inr ⟨_, _, _, _, rfl⟩) hlt0
              generalize hl1 : (line.take hd).reverse = L1 at *
              generalize hl2 : (x - m.sy) :: line.drop (hd + 1) = L2 at *
              have hcap : hd ≤ (hd + 1) := by omega
              have hcapi : (hd : Int) ≤ (hd : Int) + 1 := by omega
              have hcn : hd ≤ n := by omega
              clear oS HSL i0' hl1 hl2
              refine wp_region_ordT 14 (readsT [0, 1, 2, 3, 4, 7, 8, 9] (.stir 5 (.stir 6 (.stir 10 (.stir 11 (readsT [12] (.stir 13 .done))))))) (by kernel_rfl) (by kernel_rfl) (fun _ _ _ _ _ h => h) ?_
              simp only [readsT]
              iterate 8 (refine wpOrdT_read (v := ?_) (by rfl) (Or.inl ⟨by rfl, fun x hx => ?_⟩) ?_; rotate_left; (· have u0 := hx.cell t1; go_simp; try with_reducible rfl); try simp only [Act.put, List.setIfInBounds_toArray, List.set_cons_zero, List.set_cons_succ])
              refine wpOrdT_stir (by rfl) (fun K hK => ?_)
              go_simp
              go_at_call 66
              refine RV.mono ?_
              rintro e w5 ⟨u5, rfl, ho5, hx5⟩
              refine hK _ _ hx5 ?_
              clear hK K RV
              try simp only [Act.put, List.setIfInBounds_toArray, List.set_cons_zero, List.set_cons_succ]
              have hf5 := ho5.flat
              obtain ⟨A5', c5', rfl, _, _⟩ := ho5.ints.form
              have TR := trimmed_c _ L1 w5 ho5.ints hlt1
              have own5 := own_trim ho5
              refine wpOrdT_stir (by rfl) (fun K hK => ?_)
              go_simp
              go_at_call 65
              refine TR.mono ?_
              rintro e w6 ⟨⟨A5, c5, hu5, rfl⟩, rfl⟩
              injection hu5 with h1 h2 h3
              subst h1 h3
              refine hK _ _ (Ext.refl _) ?_
              clear hK K TR hf5 ho5
              try simp only [Act.put, List.setIfInBounds_toArray, List.set_cons_zero, List.set_cons_succ]
              obtain ⟨n5, hn5⟩ : ∃ n5, trimN L1 L1.length = n5 := ⟨_, rfl⟩
              rw [hn5] at own5
              try rw [hn5]
              clear hn5
              have CL := CloneF_c (.slice (some ⟨gu, hd, none⟩) (n - hd) 1) L2 w5 (i2'.ext (zE.trans hx5)) (.inr ⟨_, _, _, _, rfl⟩) hlt2
              refine wpOrdT_stir (by rfl) (fun K hK => ?_)
              go_simp
              go_at_call 73
              refine CL.mono ?_
              rintro e w7 ⟨u7, rfl, ho7, _, hx7⟩
              refine hK _ _ hx7 ?_
              clear hK K CL
              try simp only [Act.put, List.setIfInBounds_toArray, List.set_cons_zero, List.set_cons_succ]
              obtain ⟨A7', c7', rfl, _, _⟩ := ho7.ints.form
              have TR := trimmed_c _ L2 w7 ho7.ints hlt2
              have own7 := own_trim ho7
              refine wpOrdT_stir (by rfl) (fun K hK => ?_)
              go_simp
              go_at_call 65
              refine TR.mono ?_
              rintro e w8 ⟨⟨A7, c7, hu7, rfl⟩, rfl⟩
              injection hu7 with h1 h2 h3
              subst h1 h3
              refine hK _ _ (Ext.refl _) ?_
              clear hK K TR ho7
              try simp only [Act.put, List.setIfInBounds_toArray, List.set_cons_zero, List.set_cons_succ]
              obtain ⟨n7, hn7'⟩ : ∃ n7, trimN L2 L2.length = n7 := ⟨_, rfl⟩
              rw [hn7'] at own7
              try rw [hn7']
              clear hn7'
              iterate 1 (refine wpOrdT_read (v := ?_) (by rfl) (Or.inl ⟨by rfl, fun x hx => ?_⟩) ?_; rotate_left; (· go_simp; try with_reducible rfl); try simp only [Act.put, List.setIfInBounds_toArray, List.set_cons_zero, List.set_cons_succ])
              refine wpOrdT_stir (by rfl) (fun K hK => ?_)
              go_simp
              refine hK _ _ (Ext.alloc _ _) ?_
              clear hK K
              try simp only [Act.put, List.setIfInBounds_toArray, List.set_cons_zero, List.set_cons_succ]
              refine wpOrdT_done ?_
              try simp only [List.drop_succ_cons, List.drop_zero]
              have hts3 : ts.length ≤ 3 := by have := decTapes_len HD.out; omega
              have eA := Ext.alloc w7 (.cells #[.slice A5' n5 c5', .slice A7' n7 c7'] 106)
              have hXr7 : Ext wr w7 := hXS.trans (zE.trans (hx5.trans hx7))
              have st4 := (st.ext hXr7).ext eA
              have hVS : V.heap.size ≤ S.drew.heap.size := Nat.le_trans hVwr (hXS.trans zE).size
              have hs57 : S.drew.heap.size ≤ w5.heap.size := hx5.size
              have hs7 : w5.heap.size ≤ w7.heap.size := hx7.size
              have hsr7 : wr.heap.size ≤ S.drew.heap.size := (hXS.trans zE).size
              have p5 : OwnInts V.heap.size (w7.alloc (.cells #[.slice A5' n5 c5', .slice A7' n7 c7'] 106)) (.slice A5' n5 c5') (trim L1) := OwnInts.ext (OwnInts.ext (ownsRow_base own5 hVS) hx7) eA
              have p7 : OwnInts V.heap.size (w7.alloc (.cells #[.slice A5' n5 c5', .slice A7' n7 c7'] 106)) (.slice A7' n7 c7') (trim L2) := OwnInts.ext (ownsRow_base own7 (Nat.le_trans hVS hs57)) eA
              have bT4 := (bT.ext hXr7).ext eA
              have hx4 := (hx.trans hXr7).trans eA
              go_wp2_with (at_builtin; refine wpList_append_own_at _ rfl _ _ 28 rfl V.heap.size 106 i0 (.agg #[.slice none 0 0, .slice none 0 0]) 2 48 Tryz.underlying28 hi0 hz0 hz1 hz2 rfl (by decide) _ _ cl rfl st4.own ⟨w7.heap.size, 0, none⟩ 1 1 [.slice A5' n5 c5', .slice A7' n7 c7'] rfl rfl (World.news_of_block (heap_alloc_new w7 _)) ?c2 ?c3 ?c4 ?c5 ?_)
              case c2 => first | exact ⟨rfl, rfl⟩ | (intro u hu; simp at hu; rcases hu with rfl | rfl <;> rfl)
              case c3 => unfold maxLen; omega
              case c4 => omega
              case c5 => have := (hx.trans hXr7).size; first | omega | (simp; omega)
              intro v' w9 hown9 hg9 _ _
              obtain ⟨A9, c9, rfl, _, _, _⟩ := (ownsRow_row hown9).form
              have st5 := (st4.widen ⟨trim L1, trim L2⟩).push (lv := .slice A5' n5 c5') (rv := .slice A7' n7 c7') (by simp) hg9 hown9 (by simpa using p5) (by simpa using p7) (fun q h1 h2 => by
                have a := (own5.lt q h1).2
                have b := (own7.lt q h2).1
                omega) (fun j u q hj hq => by
                have := st.lt (Nat.le_refl _) hj hq
                exact ⟨fun e => by have := (own5.lt q e).1; omega, fun e => by have := (own7.lt q e).1; omega⟩)
              have bT9 := Blk.apart bT4 st4.own (by decide) hg9
              have hx9 : Ext V w9 := hx4.grown hg9 (fun q hq => (st4.own.lt q hq).1)
              have q9 := bT9.cell 1
              have qf := bT9.frozen 1
              simp only [List.getElem?_toArray, List.getElem?_cons_zero, List.getElem?_cons_succ] at q9
              have HS9 : Hid (CpM V (ts ++ [⟨trim L1, trim L2⟩]) (ts ++ [(⟨trim L1, trim L2⟩ : TapeD)]).length (.slice A9 (ts.length + 1) c9) (cl ++ [.slice A5' n5 c5', .slice A7' n7 c7']) (w9.setCell ⟨g + 1 + 1 + 1 + 1, 1, none⟩ (.slice A9 (ts.length + 1) c9))) := Lib.hid (by
                rw [List.length_append, List.length_singleton]
                exact st5.set bT9 1 _)
              have HX9 := Lib.hid (hx9.setCell (p := ⟨g + 1 + 1 + 1 + 1, 1, none⟩) (by show V.heap.size ≤ g + 1 + 1 + 1 + 1; rw [HVS.out]; exact Nat.le_refl _) (.slice A9 (ts.length + 1) c9))
              have HC9 := Lib.hid (bT9.set_ 1 (.slice A9 (ts.length + 1) c9))
              have hmk : m.tp.toNat - (k + 1) < m.tp.toNat - k := by omega
              clear st4 st5 hown9 hg9 bT4 bT9 hx9 p5 p7 own5 own7 eA hXr7 st
              go_wp2_with fail
              go_roundw
              case rel => exact ⟨k + 1, _, _, _, by omega, by go_num, HG.out, HS9.out, HX9.out, HC9.out⟩
              case measure => simp [intOf]; omega
          · have hZ := hZ2 hcc
            subst hZ
            clear hZ1 hZ2
            go_wp2_with fail
            refine IX.mono ?_
            rintro e w' ⟨rfl, rfl⟩
            clear IX
            go_wp2_with fail
            refine HS.mono ?_
            rintro e w' ⟨rfl, rfl⟩
            clear HS
            cases an with
            | true =>
              have HE : Hid (R = (⟨0, []⟩, 9)) := Lib.hid (HFA.out (HTW.out HAN.out))
              have ob := bO1.cell
              have of_ := bO1.frozen
              go_wp2_with fail
              rw [HE.out]
              exact bodyPost_ret (v := .tuple #[.agg #[.int .i64 0, .slice none 0 0], .int .i64 9]) (by simp [results, Tryz.results33, go_sem, ob]) rfl (DecRes.fail hb3 hXw1 _ _)
            | false =>
              have ht := HON.out HAN.out
              rw [hxg] at ht
              have HG := Lib.hid (HGO.out _ ht)
              have o1 := HOU.out
              rw [HN.out] at o1
              have hlN := HN.out
              go_upto_region 13 with fail
              have zD := Ext.drew w1
              have oD := OwnInts.ext o1 zD
              have oE : w1.drew.ownsRow wr.heap.size 2 1 (.slice (some ⟨gu, 0, none⟩) line.length cu) line.length (ivs line) := OwnInts.ext HOU.out zD
              have s1 := zD.cell hb1
              have k0 : w1.drew.cell? ⟨gu, hd, none⟩ = some (.int .i64 x) := by
                rw [World.ownsRow.cellAt oE hd (by omega)]
                simp only [ivs, List.getElem?_map]
                rw [HXG.out]
                rfl
              have kf := World.ownsRow.frozenAt oE hd
              refine wp_region_ordT 8 (readsT [0, 1, 2, 3, 4, 5, 6, 7] .done) (by kernel_rfl) (by kernel_rfl) (fun _ _ _ _ _ h => h) ?_
              simp only [readsT]
              iterate 8 (refine wpOrdT_read (v := ?_) (by rfl) (Or.inl ⟨by rfl, fun x hx => ?_⟩) ?_; rotate_left; (· have u0 := hx.cell k0; have u1 := hx.cell s1; go_simp; try with_reducible rfl); try simp only [Act.put, List.setIfInBounds_toArray, List.set_cons_zero, List.set_cons_succ])
              refine wpOrdT_done ?_
              try simp only [List.drop_succ_cons, List.drop_zero]
              change wpList _ _ _ _ _ w1.drew
              have hXY := hX1.trans zD
              have hlow : wr.heap.size ≤ w1.drew.heap.size := HX1.out.size
              have hXr := HX1.out.trans zD
              clear hb1 s1 oE
              generalize w1.drew = Y at *
              obtain ⟨S, hS⟩ : ∃ S, S = Y.setCell ⟨gu, hd, none⟩ (.int .i64 (x - m.sy)) := ⟨_, rfl⟩
              have oS := own_put oD HN.out.symm (k := hd) (by omega) (x - m.sy)
              rw [← hS] at oS
              have hXS : Ext wr S := by rw [hS]; exact hXr.setCell (p := ⟨gu, hd, none⟩) hgu1 _
              go_upto_region 14 with fail
              try rw [← hS]
              clear hS k0 kf oD
              have HSL : (line.set hd (x - m.sy)).length = n := by rw [List.length_set]; exact hlN
              have i0' := oS.ints
              rw [← HSL] at i0'
              have i1' := i0'.take hd (by omega)
              rw [set_take] at i1'
              have i2' := ints_dropA oS.ints HSL.symm hd (by omega)
              rw [set_drop line hd _ (by omega), Nat.zero_add] at i2'
              try simp only [Nat.add_sub_cancel_left] at i2'
              have hlt1 : (line.take hd).reverse.length ≤ 1048576 := by rw [List.length_reverse, List.length_take]; have := HLE.out; omega
              have hlt0 : (line.take hd).length ≤ 1048576 := by rw [List.length_take]; have := HLE.out; omega
              have hlt2 : ((x - m.sy) :: line.drop (hd + 1)).length ≤ 1048576 := by rw [List.length_cons, List.length_drop]; have := HLE.out; omega
              have hS0 : wr.heap.size ≤ S.heap.size := hXS.size
              have zE := Ext.drew S
              have hVwr : V.heap.size ≤ wr.heap.size := hx.size
              have bT1 := bT.ext (hXS.trans zE)
              have t1 := bT1.cell 1
              simp only [List.getElem?_toArray, List.getElem?_cons_zero, List.getElem?_cons_succ] at t1
              have RV := reversed_c (.slice (some ⟨gu, 0, none⟩) hd cu) (line.take hd) S.drew (i1'.ext zE) (.inr ⟨_, _, _, _, rfl⟩) hlt0
              generalize hl1 : (line.take hd).reverse = L1 at *
              generalize hl2 : (x - m.sy) :: line.drop (hd + 1) = L2 at *
              have hcap : hd ≤ cu := by omega
              have hcapi : (hd : Int) ≤ (cu : Int) := by omega
              have hcn : hd ≤ n := by omega
              clear oS HSL i0' hl1 hl2
              refine wp_region_ordT 14 (readsT [0, 1, 2, 3, 4, 7, 8, 9] (.stir 5 (.stir 6 (.stir 10 (.stir 11 (readsT [12] (.stir 13 .done))))))) (by kernel_rfl) (by kernel_rfl) (fun _ _ _ _ _ h => h) ?_
              simp only [readsT]
              iterate 8 (refine wpOrdT_read (v := ?_) (by rfl) (Or.inl ⟨by rfl, fun x hx => ?_⟩) ?_; rotate_left; (· have u0 := hx.cell t1; go_simp; try with_reducible rfl); try simp only [Act.put, List.setIfInBounds_toArray, List.set_cons_zero, List.set_cons_succ])
              refine wpOrdT_stir (by rfl) (fun K hK => ?_)
              go_simp
              go_at_call 66
              refine RV.mono ?_
              rintro e w5 ⟨u5, rfl, ho5, hx5⟩
              refine hK _ _ hx5 ?_
              clear hK K RV
              try simp only [Act.put, List.setIfInBounds_toArray, List.set_cons_zero, List.set_cons_succ]
              have hf5 := ho5.flat
              obtain ⟨A5', c5', rfl, _, _⟩ := ho5.ints.form
              have TR := trimmed_c _ L1 w5 ho5.ints hlt1
              have own5 := own_trim ho5
              refine wpOrdT_stir (by rfl) (fun K hK => ?_)
              go_simp
              go_at_call 65
              refine TR.mono ?_
              rintro e w6 ⟨⟨A5, c5, hu5, rfl⟩, rfl⟩
              injection hu5 with h1 h2 h3
              subst h1 h3
              refine hK _ _ (Ext.refl _) ?_
              clear hK K TR hf5 ho5
              try simp only [Act.put, List.setIfInBounds_toArray, List.set_cons_zero, List.set_cons_succ]
              obtain ⟨n5, hn5⟩ : ∃ n5, trimN L1 L1.length = n5 := ⟨_, rfl⟩
              rw [hn5] at own5
              try rw [hn5]
              clear hn5
              have CL := CloneF_c (.slice (some ⟨gu, hd, none⟩) (n - hd) (cu - hd)) L2 w5 (i2'.ext (zE.trans hx5)) (.inr ⟨_, _, _, _, rfl⟩) hlt2
              refine wpOrdT_stir (by rfl) (fun K hK => ?_)
              go_simp
              go_at_call 73
              refine CL.mono ?_
              rintro e w7 ⟨u7, rfl, ho7, _, hx7⟩
              refine hK _ _ hx7 ?_
              clear hK K CL
              try simp only [Act.put, List.setIfInBounds_toArray, List.set_cons_zero, List.set_cons_succ]
              obtain ⟨A7', c7', rfl, _, _⟩ := ho7.ints.form
              have TR := trimmed_c _ L2 w7 ho7.ints hlt2
              have own7 := own_trim ho7
              refine wpOrdT_stir (by rfl) (fun K hK => ?_)
              go_simp
              go_at_call 65
              refine TR.mono ?_
              rintro e w8 ⟨⟨A7, c7, hu7, rfl⟩, rfl⟩
              injection hu7 with h1 h2 h3
              subst h1 h3
              refine hK _ _ (Ext.refl _) ?_
              clear hK K TR ho7
              try simp only [Act.put, List.setIfInBounds_toArray, List.set_cons_zero, List.set_cons_succ]
              obtain ⟨n7, hn7'⟩ : ∃ n7, trimN L2 L2.length = n7 := ⟨_, rfl⟩
              rw [hn7'] at own7
              try rw [hn7']
              clear hn7'
              iterate 1 (refine wpOrdT_read (v := ?_) (by rfl) (Or.inl ⟨by rfl, fun x hx => ?_⟩) ?_; rotate_left; (· go_simp; try with_reducible rfl); try simp only [Act.put, List.setIfInBounds_toArray, List.set_cons_zero, List.set_cons_succ])
              refine wpOrdT_stir (by rfl) (fun K hK => ?_)
              go_simp
              refine hK _ _ (Ext.alloc _ _) ?_
              clear hK K
              try simp only [Act.put, List.setIfInBounds_toArray, List.set_cons_zero, List.set_cons_succ]
              refine wpOrdT_done ?_
              try simp only [List.drop_succ_cons, List.drop_zero]
              have hts3 : ts.length ≤ 3 := by have := decTapes_len HD.out; omega
              have eA := Ext.alloc w7 (.cells #[.slice A5' n5 c5', .slice A7' n7 c7'] 106)
              have hXr7 : Ext wr w7 := hXS.trans (zE.trans (hx5.trans hx7))
              have st4 := (st.ext hXr7).ext eA
              have hVS : V.heap.size ≤ S.drew.heap.size := Nat.le_trans hVwr (hXS.trans zE).size
              have hs57 : S.drew.heap.size ≤ w5.heap.size := hx5.size
              have hs7 : w5.heap.size ≤ w7.heap.size := hx7.size
              have hsr7 : wr.heap.size ≤ S.drew.heap.size := (hXS.trans zE).size
              have p5 : OwnInts V.heap.size (w7.alloc (.cells #[.slice A5' n5 c5', .slice A7' n7 c7'] 106)) (.slice A5' n5 c5') (trim L1) := OwnInts.ext (OwnInts.ext (ownsRow_base own5 hVS) hx7) eA
              have p7 : OwnInts V.heap.size (w7.alloc (.cells #[.slice A5' n5 c5', .slice A7' n7 c7'] 106)) (.slice A7' n7 c7') (trim L2) := OwnInts.ext (ownsRow_base own7 (Nat.le_trans hVS hs57)) eA
              have bT4 := (bT.ext hXr7).ext eA
              have hx4 := (hx.trans hXr7).trans eA
              go_wp2_with (at_builtin; refine wpList_append_own_at _ rfl _ _ 28 rfl V.heap.size 106 i0 (.agg #[.slice none 0 0, .slice none 0 0]) 2 48 Tryz.underlying28 hi0 hz0 hz1 hz2 rfl (by decide) _ _ cl rfl st4.own ⟨w7.heap.size, 0, none⟩ 1 1 [.slice A5' n5 c5', .slice A7' n7 c7'] rfl rfl (World.news_of_block (heap_alloc_new w7 _)) ?c2 ?c3 ?c4 ?c5 ?_)
              case c2 => first | exact ⟨rfl, rfl⟩ | (intro u hu; simp at hu; rcases hu with rfl | rfl <;> rfl)
              case c3 => unfold maxLen; omega
              case c4 => omega
              case c5 => have := (hx.trans hXr7).size; first | omega | (simp; omega)
              intro v' w9 hown9 hg9 _ _
              obtain ⟨A9, c9, rfl, _, _, _⟩ := (ownsRow_row hown9).form
              have st5 := (st4.widen ⟨trim L1, trim L2⟩).push (lv := .slice A5' n5 c5') (rv := .slice A7' n7 c7') (by simp) hg9 hown9 (by simpa using p5) (by simpa using p7) (fun q h1 h2 => by
                have a := (own5.lt q h1).2
                have b := (own7.lt q h2).1
                omega) (fun j u q hj hq => by
                have := st.lt (Nat.le_refl _) hj hq
                exact ⟨fun e => by have := (own5.lt q e).1; omega, fun e => by have := (own7.lt q e).1; omega⟩)
              have bT9 := Blk.apart bT4 st4.own (by decide) hg9
              have hx9 : Ext V w9 := hx4.grown hg9 (fun q hq => (st4.own.lt q hq).1)
              have q9 := bT9.cell 1
              have qf := bT9.frozen 1
              simp only [List.getElem?_toArray, List.getElem?_cons_zero, List.getElem?_cons_succ] at q9
              have HS9 : Hid (CpM V (ts ++ [⟨trim L1, trim L2⟩]) (ts ++ [(⟨trim L1, trim L2⟩ : TapeD)]).length (.slice A9 (ts.length + 1) c9) (cl ++ [.slice A5' n5 c5', .slice A7' n7 c7']) (w9.setCell ⟨g + 1 + 1 + 1 + 1, 1, none⟩ (.slice A9 (ts.length + 1) c9))) := Lib.hid (by
                rw [List.length_append, List.length_singleton]
                exact st5.set bT9 1 _)
              have HX9 := Lib.hid (hx9.setCell (p := ⟨g + 1 + 1 + 1 + 1, 1, none⟩) (by show V.heap.size ≤ g + 1 + 1 + 1 + 1; rw [HVS.out]; exact Nat.le_refl _) (.slice A9 (ts.length + 1) c9))
              have HC9 := Lib.hid (bT9.set_ 1 (.slice A9 (ts.length + 1) c9))
              have hmk : m.tp.toNat - (k + 1) < m.tp.toNat - k := by omega
              clear st4 st5 hown9 hg9 bT4 bT9 hx9 p5 p7 own5 own7 eA hXr7 st
              go_wp2_with fail
              go_roundw
              case rel => exact ⟨k + 1, _, _, _, by omega, by go_num, HG.out, HS9.out, HX9.out, HC9.out⟩
              case measure => simp [intOf]; omega
      · have hkt : (k : Int) = m.tp := by omega
        have hkn : m.tp.toNat = k := by omega
        have HE : Hid (R = (⟨pa, ts⟩, 0)) := Lib.hid (by rw [HK.out, hkn, hdt])
        have bO1 := HBO.out.ext hx
        have ob := bO1.cell
        have of_ := bO1.frozen
        have t0 := bT.cell 0
        have t1 := bT.cell 1
        simp only [List.getElem?_toArray, List.getElem?_cons_zero, List.getElem?_cons_succ] at t0 t1
        have hge : ¬ (k : Int) < m.tp := by omega
        have ST := Lib.hid st
        clear hkt hkn hdt st bT hlt
        go_wp2
        rw [HE.out]
        exact bodyPost_ret (v := .tuple #[.agg #[.int .i64 pa, .slice Av ts.length cv], .int .i64 0]) (by simp [results, Tryz.results33, go_sem, ob]) rfl (DecRes.done hb3 hXwr (ST.out.base HXV.out.size) bO1 _ _)
  · have HE : Hid (R = (⟨0, []⟩, 6)) := Lib.hid (by rw [HR.out]; unfold decOne; simp only; rw [if_neg hk])
    have ob := bOV.cell
    have of_ := bOV.frozen
    go_wp2
    rw [HE.out]
    exact bodyPost_ret (v := .tuple #[.agg #[.int .i64 0, .slice none 0 0], .int .i64 6]) (by simp [results, Tryz.results33, go_sem, ob]) rfl (DecRes.fail hb3 hXVw _ _)
end Go.Proofs.YtfghojbbofobeaaGreat
end
section
set_option linter.unusedSimpArgs false
set_option linter.unusedVariables false
namespace Go.Proofs.YtfghojbbofobeaaGreat
open Go Go.RowKit Go.Proofs Go.Maps
set_option maxHeartbeats 400000
theorem side_allM {xs : List Int} {sy : Int} (h : sideOk xs sy 200 = true) : xs.length ≤ 200 ∧ ∀ z ∈ xs, 0 ≤ z ∧ z ≤ sy - 1 := by
  unfold sideOk at h
  simp only [Bool.and_eq_true, decide_eq_true_eq, List.all_eq_true] at h
  refine ⟨by omega, fun z hz => ?_⟩
  have := h.1.2 z hz
  simpa [inB] using this
theorem conf_allM {sy st : Int} {rs : List RuleD} {c : ConfD} (h : confB ⟨sy, st, rs⟩ c = true) : (0 ≤ c.q ∧ c.q < st) ∧ (c.l.length ≤ 200 ∧ ∀ z ∈ c.l, 0 ≤ z ∧ z ≤ sy - 1) ∧ (c.r.length ≤ 200 ∧ ∀ z ∈ c.r, 0 ≤ z ∧ z ≤ sy - 1) := by
  simp only [confB, Bool.and_eq_true, inB, decide_eq_true_eq] at h
  exact ⟨by omega, side_allM h.1.2, side_allM h.2⟩
theorem DecRes.over {w w0 w1 : World} {q k : Int} {ts : List TapeD} {v : Value} {cl : List Value} {b : Nat} {cs : Array Value} (hb : w.heap.size ≤ b) (hX0 : Ext w w0) (hX : Ext w0 w1) (h : CpM w0 ts ts.length v cl w1) (hB : Blk w1 b 30 cs) (x y : Value) :
    DecRes w (⟨q, ts⟩, k) (.returned (.tuple #[.agg #[.int .i64 q, v], .int .i64 k])) ((w1.setCell ⟨b, 0, none⟩ x).setCell ⟨b, 1, none⟩ y) :=
  DecRes.done hb (hX0.trans hX) (h.base hX0.size) hB x y
end Go.Proofs.YtfghojbbofobeaaGreat
end
section
set_option linter.unusedSimpArgs false
set_option linter.unusedVariables false
namespace Go.Proofs.YtfghojbbofobeaaGreat
open Go Go.RowKit Go.Proofs Go.Shelf
attribute [local go_sem] Oper.semAt_some
set_option maxHeartbeats 400000
section
variable {w0 w w' A B : World} {b bq bp : Nat} {m : MachD} {c d d' : ConfD} {mv lv rv lv' rv' : Value} {N : Nat}
theorem RunAt.vals (h : RunAt w0 w b m d mv lv rv) (h' : RunAt w0 w b m d' mv lv' rv') : lv = lv' ∧ rv = rv' := by
  have e := (h.blk.symm.trans h'.blk)
  simp at e
  exact ⟨e.2.1, e.2.2⟩
theorem not_cells {k : Nat} {o : Obj} {t : TypeId} {cs : Array Value} (h : Blk A k t cs) (ho : ∃ o, A.heap[k]? = some o ∧ o.isCells = false) : False := by
  obtain ⟨o, h1, h2⟩ := ho
  rw [h] at h1
  cases h1
  cases h2
theorem own_not_cells {base k : Nat} {e : TypeId} {size n : Nat} {v : Value} {xs : List Value} (h : A.ownsRow base e size v n xs) (hv : v.ownBlock = some k) (ho : ∃ o, A.heap[k]? = some o ∧ o.isCells = false) : False := by
  rcases h.2 with ⟨rfl, _⟩ | ⟨g, cap, cur, rfl, _, hg, _⟩
  · simp [Value.ownBlock] at hv
  · simp [Value.ownBlock] at hv
    subst hv
    obtain ⟨o, h1, h2⟩ := ho
    rw [hg] at h1
    cases h1
    cases h2
/-- What no runner has is turned. -/
theorem RunAt.turn (h : RunAt w0 A b m d mv lv rv) {row : Option Nat} (hg : A.grownBy B row) (hr : ∀ r, row = some r → w0.heap.size ≤ r ∧ ∃ o : Obj, A.heap[r]? = some o ∧ o.isCells = false) : RunAt w0 B b m d mv lv rv := by
  refine ⟨h.blk.kept hg (fun e => not_cells (o := .cells #[] 0) h.blk (hr b e.symm).2), h.rules0, h.ext0.grown hg (fun k hk => (hr k hk).1), ?_, ?_, h.ap, h.low⟩
  · exact own_same h.l (fun g hgl => hg.block g (h.l.lt g hgl).2 (fun e => own_not_cells h.l hgl (hr g e.symm).2))
  · exact own_same h.r (fun g hgl => hg.block g (h.r.lt g hgl).2 (fun e => own_not_cells h.r hgl (hr g e.symm).2))
theorem RunAt.apart (h : RunAt w0 A b m d mv lv rv) {p : Addr} (hb : p.block ≠ b) (hl : lv.ownBlock ≠ some p.block) (hr : rv.ownBlock ≠ some p.block) (hp : w0.heap.size ≤ p.block) (u : Value) : RunAt w0 (A.setCell p u) b m d mv lv rv :=
  ⟨h.blk.far (Ne.symm hb) u, h.rules0, h.ext0.setCell hp u, ownsRow_far h.l (fun k hk e => hl (by rw [← e]; exact hk)) u, ownsRow_far h.r (fun k hk e => hr (by rw [← e]; exact hk)) u, h.ap, h.low⟩
theorem KpR.trans {C : World} (h : KpR w0 b bq bp m mv A B) (k : KpR w0 b bq bp m mv B C) : KpR w0 b bq bp m mv A C :=
  ⟨Nat.le_trans h.1 k.1, fun d lv rv hr => k.2.1 d lv rv (h.2.1 d lv rv hr), k.2.2.1.trans h.2.2.1, k.2.2.2.trans h.2.2.2⟩
theorem KpR.turn (W : World) (l : Nat) (o o' : Obj) (h0 : w0.heap.size ≤ l) (hq : bq < l) (hp : bp < l) (h : W.heap[l]? = some o) (ho : o.isCells = false) : KpR w0 b bq bp m mv W (W.putObj l o') := by
  have hg := grownBy_putObj' W l o'
  have hl := (Array.getElem?_eq_some_iff.1 h).1
  exact ⟨hg.size, fun d lv rv hr => hr.turn hg (fun r e => by cases e; exact ⟨h0, o, h, ho⟩), hg.block bq (by omega) (fun e => by injection e with e; omega), hg.block bp (by omega) (fun e => by injection e with e; omega)⟩
theorem WrR.keeps (h : WrR w0 b m mv A B) : KeepsOthers A B := by
  obtain ⟨d, lv, rv, d', lv', rv', h1, h2, hm⟩ := h
  refine ⟨hm.size, fun k o hk ho => ?_⟩
  have hlt := (Array.getElem?_eq_some_iff.1 hk).1
  refine (hm.same k hlt (fun e => ?_) (fun e => own_not_cells h1.l e ⟨o, hk, ho⟩) (fun e => own_not_cells h1.r e ⟨o, hk, ho⟩)).trans hk
  subst e
  exact not_cells (o := o) h1.blk ⟨o, hk, ho⟩
end
/-- What lies apart from a runner. -/
structure Apt (b k : Nat) (lv rv : Value) : Prop where
  nb : k ≠ b
  nl : lv.ownBlock ≠ some k
  nr : rv.ownBlock ≠ some k
theorem Apt.moved {b k : Nat} {A B : World} {lv rv lv' rv' : Value} (h : Apt b k lv rv) (hm : Moved b A B lv rv lv' rv') (hk : k < A.heap.size) : Apt b k lv' rv' ∧ B.heap[k]? = A.heap[k]? := by
  refine ⟨⟨h.nb, fun e => ?_, fun e => ?_⟩, hm.same k hk h.nb h.nl h.nr⟩
  · rcases hm.newl _ e with e | e | e
    · exact h.nl e
    · exact h.nr e
    · omega
  · rcases hm.newr _ e with e | e | e
    · exact h.nl e
    · exact h.nr e
    · omega
theorem steps_c (v : Value) (N : Int) (w : World) (h : ∃ a, v = .pointer a) :
    Calls Tryz.prog 67 #[v, .int .i64 N] w fun e w' => e = .returned (.func (.func 105) #[] #[.pointer (some ⟨w.heap.size + 1, 0, none⟩), .pointer (some ⟨w.heap.size, 0, none⟩)]) ∧ w' = (w.alloc (.cells #[v] 74)).alloc (.cells #[.int .i64 N] 2) := by
  obtain ⟨a, rfl⟩ := h
  go_enter Tryz.func67, Tryz.ntmps67
  go_wp2
  go_ret
  exact ⟨rfl, rfl⟩
def lastN (pre : List (Int × Bool)) : Int := (pre.getLast?.map (·.1)).getD 0
theorem lastN_snoc (pre : List (Int × Bool)) (x : Int × Bool) : lastN (pre ++ [x]) = x.1 := by simp [lastN]
/-- The four boxes of a run: three results, and the number of steps. -/
structure FourR (W : World) (k : Nat) (a : Int) (s : Bool) (e n : Int) : Prop where
  b0 : Blk W k 2 #[.int .i64 a]
  b1 : Blk W (k + 1) 4 #[.bool s]
  b2 : Blk W (k + 2) 2 #[.int .i64 e]
  b3 : Blk W (k + 3) 2 #[.int .i64 n]
theorem FourR.same {W W' : World} {k : Nat} {a e n : Int} {s : Bool} (h : FourR W k a s e n) (h0 : ∀ i, i < 4 → W'.heap[k + i]? = W.heap[k + i]?) : FourR W' k a s e n :=
  ⟨(h0 0 (by omega)).trans h.b0, (h0 1 (by omega)).trans h.b1, (h0 2 (by omega)).trans h.b2, (h0 3 (by omega)).trans h.b3⟩
theorem FourR.lt {W : World} {k : Nat} {a e n : Int} {s : Bool} (h : FourR W k a s e n) : k + 3 < W.heap.size := h.b3.lt
/-- What holds between two rounds. -/
def IRun (w0 : World) (b : Nat) (m : MachD) (mv : Value) (k : Nat) (pre : List (Int × Bool)) (W : World) : Prop :=
  (∃ d lv rv, RunAt w0 W b m d mv lv rv ∧ ∀ i, i < 4 → Apt b (k + i) lv rv) ∧ FourR W k 0 false 0 (lastN pre) ∧ ∀ x ∈ pre, x.2 = true
/-- What holds when a round has left the loop. -/
def IxRun (w0 : World) (k : Nat) (cd : Code) (pre : List (Int × Bool)) (W : World) : Prop :=
  cd = .ret ∧ (∃ p x, pre = p ++ [x] ∧ x.2 = false) ∧ (∃ n, FourR W k 0 false 5 n) ∧ Ext w0 W
/-- What a run comes to. -/
def RunOut (w0 : World) (b : Nat) (m : MachD) (c : ConfD) (mv : Value) (N : Nat) (e : Ending) (w' : World) : Prop :=
  (∃ (i : Nat) (lv rv : Value), EndAt m c N i ∧ e = .returned (.tuple #[.int .i64 i, .bool (decide (lookI m (cfgI m c i) = noR)), .int .i64 0]) ∧ RunAt w0 w' b m (cfgI m c i) mv lv rv) ∨
    ((∃ i, FullAt m c N i) ∧ e = .returned (.tuple #[.int .i64 0, .bool false, .int .i64 5]) ∧ Ext w0 w')
end Go.Proofs.YtfghojbbofobeaaGreat
end
