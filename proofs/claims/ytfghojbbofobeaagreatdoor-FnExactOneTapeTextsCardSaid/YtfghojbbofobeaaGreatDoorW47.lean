/- The law FnExactOneTapeTexts: the program's and the reference's texts of a run of the machine with one tape for several are one.
The arguments of the laws of this seat, opened, continued: lists of lists, a proof. No condition.
A machine with several tapes as an argument. No condition. -/
import Derived.Test.YtfghojbbofobeaaGreatDoorW38
import Derived.Test.YtfghojbbofobeaaGreatDoorW43
import Derived.Test.YtfghojbbofobeaaGreatDoorW44
import Derived.Test.YtfghojbbofobeaaGreatDoorW45
import Derived.Test.YtfghojbbofobeaaGreatDoorW46
import Derived.Deep.RegionHeld3
import Derived.Test.YtfghojbbofobeaaGreatDoorW02
import Derived.Test.YtfghojbbofobeaaGreatDoorW09
section
set_option linter.unusedSimpArgs false
set_option linter.unusedVariables false
namespace Go.Proofs.YtfghojbbofobeaaGreatDoor
open Go Go.RowKit Go.Proofs
set_option maxHeartbeats 400000
/-- A list of words of one's own as the texts of a run ask for it. -/
theorem words_own {base : Nat} {w : World} {v : Value} {ws : List (List Int)} (h : OwnIntRows base w v ws) (hn : ws.length + tot ws ≤ 1048576) : ∃ vs, Row w 1 v ws.length vs ∧ ∀ i, (h : i < ws.length) → ∃ u, vs[i]? = some u ∧ Ints w u ws[i] ∧ Flat u ∧ ws[i].length ≤ 1048576 := by
  obtain ⟨vs, h1, h2, _⟩ := h
  refine ⟨vs, ownsRow_row h1, fun i hi => ?_⟩
  obtain ⟨u, e, o⟩ := h2 i hi
  have a := tot_take_succ ws i hi
  have b := tot_take_le ws (i + 1)
  exact ⟨u, e, o.ints, o.flat, by omega⟩
set_option maxRecDepth 20000 in
set_option maxHeartbeats 4000000 in
theorem law31_c (v wv : Value) (m : MultiD) (ws : List (List Int)) (n : Int) (w : World) (h : Mult w v m) (h' : IntRows w wv ws) (hTb : Tab w) :
    Calls Tryz.prog 3 #[v, wv, .int .i64 n] w fun e w' => e = .returned (.bool true) ∧ Ext w w' := by
  obtain ⟨rv, rfl, hr⟩ := h
  obtain ⟨Ar, cr, rfl, _, _⟩ := hr.form
  obtain ⟨Aw, cw, rfl, _, _⟩ := h'.form
  obtain ⟨g, hg⟩ : ∃ g, w.heap.size = g := ⟨_, rfl⟩
  obtain ⟨W, hW⟩ : ∃ W, W = w.alloc (.cells #[.int .i64 m.tp, .int .i64 m.sy, .int .i64 m.st, .slice Ar m.rules.length cr] 24) := ⟨_, rfl⟩
  have hx0 : Ext w W := by rw [hW]; exact Ext.alloc _ _
  have bM : Blk W g 24 #[.int .i64 m.tp, .int .i64 m.sy, .int .i64 m.st, .slice Ar m.rules.length cr] := by rw [hW]; exact Blk.new _ _ _ _ hg
  have SZ := szMulti_c (.agg #[.int .i64 m.tp, .int .i64 m.sy, .int .i64 m.st, .slice Ar m.rules.length cr]) m 1048576 W ⟨_, rfl, hr.ext hx0⟩ (by omega) (by omega)
  go_enter Tryz.func3, Tryz.ntmps3
  go_wp2_with fail
  try rw [← hW]
  try rw [hg]
  clear hW
  refine SZ.mono ?_
  rintro e w1 ⟨rfl, hx1⟩
  have hX1 := hx0.trans hx1
  by_cases hbig : (1048576 : Int) < ((m.rules.length + totM m.rules : Nat) : Int)
  · rw [szF_no hbig]
    go_wp2
    go_ret
    exact ⟨rfl, hX1⟩
  · rw [szF_yes hbig]
    have hlen : m.rules.length + totM m.rules ≤ 1048576 := by omega
    obtain ⟨lf, hlf⟩ : ∃ l, (1048576 : Int) - ((m.rules.length + totM m.rules : Nat) : Int) = l := ⟨_, rfl⟩
    rw [hlf]
    have hlf0 : 0 ≤ lf := by omega
    have hlf1 : lf ≤ 1048576 := by omega
    have SW := szInt64SS_c _ ws lf w1 (h'.ext hX1) hlf0 hlf1
    clear hlf hbig SZ
    go_wp2_with fail
    refine SW.mono ?_
    rintro e _ ⟨rfl, rfl⟩
    by_cases hbig : lf < ((ws.length + tot ws : Nat) : Int)
    · rw [szF_no hbig]
      go_wp2
      go_ret
      exact ⟨rfl, hX1⟩
    · rw [szF_yes hbig]
      have hwl : ws.length + tot ws ≤ 1048576 := by omega
      obtain ⟨l2, hl2⟩ : ∃ l, lf - ((ws.length + tot ws : Nat) : Int) = l := ⟨_, rfl⟩
      rw [hl2]
      have hl20 : 0 ≤ l2 := by omega
      have bM1 := bM.ext hx1
      clear hl2 hbig SW
      have m0 := bM1.cell 0
      have m1 := bM1.cell 1
      have m2 := bM1.cell 2
      have m3 := bM1.cell 3
      simp only [List.getElem?_toArray, List.getElem?_cons_zero, List.getElem?_cons_succ] at m0 m1 m2 m3
      have TM := toMulti_c (.agg #[.int .i64 m.tp, .int .i64 m.sy, .int .i64 m.st, .slice Ar m.rules.length cr]) m w1 ⟨_, rfl, hr.ext hX1⟩ hlen
      -- region 8
      go_wp2_with fail
      refine TM.mono ?_
      rintro e wA ⟨rA, rfl, oA, hxA⟩
      obtain ⟨AA, cA, rfl, _, _⟩ := oA.form
      have hXA := hX1.trans hxA
      have TW := toInt64SS_c _ ws wA (h'.ext hXA) hwl
      clear TM
      go_wp2_with fail
      refine TW.mono ?_
      rintro e wB ⟨uB, rfl, oB, hxB⟩
      obtain ⟨vsB, rB, iB⟩ := words_own oB hwl
      obtain ⟨AB, cB, rfl, _, _, _⟩ := rB.form
      have hXB := hXA.trans hxB
      have MS := specOneTapeTexts_c m (.agg #[.int .i64 m.tp, .int .i64 m.sy, .int .i64 m.st, .slice AA m.rules.length cA]) _ ws vsB n wB ⟨_, rfl, (oA.ext hxB).own.rules⟩ rB (fun i hi => by
        obtain ⟨u, e, iu, _, hl⟩ := iB i hi
        exact ⟨u, e, iu, hl⟩)
      clear TW
      go_wp2_with fail
      refine MS.mono ?_
      rintro e wS ⟨L, kk, tvS, rfl, oS, hSS, hxS⟩
      obtain ⟨AS, cS, rfl, _, _, _⟩ := (ownsRow_row oS).form
      have hXC := hXB.trans hxS
      have HSS := Lib.hid hSS
      have iS := ownsRow_row oS
      have bMC := (bM1.ext hxA).ext (hxB.trans hxS)
      have m0 := bMC.cell 0
      have m1 := bMC.cell 1
      have m2 := bMC.cell 2
      have m3 := bMC.cell 3
      simp only [List.getElem?_toArray, List.getElem?_cons_zero, List.getElem?_cons_succ] at m0 m1 m2 m3
      have T5 := toMulti_c (.agg #[.int .i64 m.tp, .int .i64 m.sy, .int .i64 m.st, .slice Ar m.rules.length cr]) m wS ⟨_, rfl, hr.ext hXC⟩ hlen
      clear MS hSS oS oA oB rB iB
      -- region 9
      go_wp2_with fail
      refine T5.mono ?_
      rintro e w5 ⟨rv5, rfl, o5, hx5⟩
      obtain ⟨A5, c5, rfl, _, _⟩ := o5.form
      obtain ⟨W5, hW5⟩ : ∃ W, W = w5.alloc (.cells #[.int .i64 m.tp, .int .i64 m.sy, .int .i64 m.st, .slice A5 m.rules.length c5] 33) := ⟨_, rfl⟩
      have hxW5 : Ext w5 W5 := by rw [hW5]; exact Ext.alloc _ _
      have bX : Blk W5 w5.heap.size 33 #[.int .i64 m.tp, .int .i64 m.sy, .int .i64 m.st, .slice A5 m.rules.length c5] := by rw [hW5]; exact Blk.new _ _ _ _ rfl
      have hE5 := hx5.trans hxW5
      have oX := o5.ext hxW5
      have T6 := toInt64SS_c _ ws W5 (h'.ext (hXC.trans hE5)) hwl
      clear T5 m0 m1 m2 m3
      -- region 10
      go_wp2_with fail
      try rw [← hW5]
      clear hW5
      refine T6.mono ?_
      rintro e w6 ⟨u6, rfl, o6, hx6⟩
      obtain ⟨vs6, r6, i6⟩ := words_own o6 hwl
      obtain ⟨A6, c6, rfl, _, _, _⟩ := r6.form
      have hE6 := hE5.trans hx6
      have oX6 := oX.ext hx6
      have bX6 := bX.ext hx6
      have m0 := bX6.cell 0
      have m1 := bX6.cell 1
      have m2 := bX6.cell 2
      have m3 := bX6.cell 3
      simp only [List.getElem?_toArray, List.getElem?_cons_zero, List.getElem?_cons_succ] at m0 m1 m2 m3
      have MT := OneTapeTexts_c m (.agg #[.int .i64 m.tp, .int .i64 m.sy, .int .i64 m.st, .slice A5 m.rules.length c5]) _ ws vs6 n w6 ⟨_, rfl, oX6.own.rules⟩ r6 (fun i hi => by
        obtain ⟨u, e, iu, hf, _⟩ := i6 i hi
        exact ⟨u, e, iu, hf⟩) (hTb.ext (hXC.trans hE6))
      clear T6
      -- region 11
      go_wp2_with fail
      refine MT.mono ?_
      rintro e w7 ⟨L7, k7, tv7, rfl, o7, h7, hx7⟩
      obtain ⟨hL, hK⟩ := OTxt.unique HSS.out h7
      subst hL hK
      clear h7 MT m0 m1 m2 m3
      obtain ⟨A7, c7, rfl, _, _, _⟩ := (ownsRow_row o7).form
      have hE7 := hE6.trans hx7
      have hcc : (kk != kk) = false := by simp
      have EQ := eqStringS_c _ _ _ L (ownsRow_row o7) (iS.ext hE7)
      -- region 12
      go_wp2_with fail
      refine EQ.mono ?_
      rintro e w8 ⟨rfl, hx8⟩
      have hE8 := hE7.trans hx8
      have o8 := ownsRow_ext o7 hx8
      have hXd := hE8.trans (Ext.drew w8)
      have bX8 := (bX6.ext (hx7.trans hx8)).ext (Ext.drew w8)
      have bM8 := bMC.ext hXd
      have c0 := bX8.cell 0
      have c1 := bX8.cell 1
      have c2 := bX8.cell 2
      have c3 := bX8.cell 3
      have d0 := bM8.cell 0
      have d1 := bM8.cell 1
      have d2 := bM8.cell 2
      have d3 := bM8.cell 3
      simp only [List.getElem?_toArray, List.getElem?_cons_zero, List.getElem?_cons_succ] at c0 c1 c2 c3 d0 d1 d2 d3
      have T9 := toMulti_c (.agg #[.int .i64 m.tp, .int .i64 m.sy, .int .i64 m.st, .slice Ar m.rules.length cr]) m w8.drew ⟨_, rfl, hr.ext (hXC.trans hXd)⟩ hlen
      have oX8 := (oX6.ext (hx7.trans hx8)).ext (Ext.drew w8)
      clear EQ
      -- region 14
      go_wp2_with fail
      refine wp_region_ordT 4 (readsT [0, 1] (.stir 2 (.stir 3 .done))) (by kernel_rfl) (by kernel_rfl) (fun _ _ _ _ _ h => h) ?_
      simp only [readsT]
      iterate 2 (refine wpOrdT_read (v := ?_) (by rfl) (Or.inl ⟨by rfl, fun x hx => ?_⟩) ?_; rotate_left; (· have a0 := hx.cell c0; have a1 := hx.cell c1; have a2 := hx.cell c2; have a3 := hx.cell c3; have b0 := hx.cell d0; have b1 := hx.cell d1; have b2 := hx.cell d2; have b3 := hx.cell d3; go_simp; try with_reducible rfl); try simp only [Act.put, List.setIfInBounds_toArray, List.set_cons_zero, List.set_cons_succ])
      refine wpOrdT_keep (by rfl) (fun K hK => ?_)
      go_simp
      refine T9.mono ?_
      rintro e w9 ⟨rv9, rfl, o9, hx9⟩
      obtain ⟨A9, c9, rfl, _, _⟩ := o9.form
      refine hK _ _ hx9 ?_
      clear hK K
      refine wpOrdT_keep (by rfl) (fun K hK => ?_)
      go_simp
      refine (eqMulti_c _ _ m w9 ⟨_, rfl, (oX8.ext hx9).own.rules⟩ ⟨_, rfl, o9.own.rules⟩).mono ?_
      rintro e w10 ⟨rfl, hx10⟩
      refine hK _ _ (hx9.trans hx10) ?_
      clear hK K
      refine wpOrdT_done ?_
      try simp only [List.drop_succ_cons, List.drop_zero]
      have hx810 : Ext w8 w10 := (Ext.drew w8).trans (hx9.trans hx10)
      have hE10 := hE8.trans hx810
      have T11 := toInt64SS_c _ ws w10 (h'.ext (hXC.trans hE10)) hwl
      clear T9 c0 c1 c2 c3 d0 d1 d2 d3
      -- region 16
      go_wp2_with fail
      refine T11.mono ?_
      rintro e w11 ⟨u11, rfl, o11, hx11⟩
      have hE11 := hE10.trans hx11
      obtain ⟨A11, c11, rfl, _, _⟩ := o11.rows.form
      have EQ := eqInt64SS_c w11 _ _ ws ws ((o6.ext (hx7.trans (hx8.trans (hx810.trans hx11)))).rows) o11.rows
      rw [lEq_true rfl] at EQ
      clear T11
      go_wp2_with fail
      refine EQ.mono ?_
      rintro e w12 ⟨rfl, hx12⟩
      have hE12 := hE11.trans hx12
      have hx5t : Ext w5 w12 := hxW5.trans (hx6.trans (hx7.trans (hx8.trans (hx810.trans (hx11.trans hx12)))))
      have bX12 := bX6.ext (hx7.trans (hx8.trans (hx810.trans (hx11.trans hx12))))
      have m0 := bX12.cell 0
      have m1 := bX12.cell 1
      have m2 := bX12.cell 2
      have m3 := bX12.cell 3
      simp only [List.getElem?_toArray, List.getElem?_cons_zero, List.getElem?_cons_succ] at m0 m1 m2 m3
      have MK := markMulti_c wS.heap.size m.tp m.sy m.st _ m.rules 1 w5 w12 o5 hx5t hE12.size (by omega) (by omega)
      clear EQ
      -- region 19
      go_wp2_with fail
      refine MK.mono ?_
      rintro e w13 ⟨rfl, hb13, ht13⟩
      have hE13 : Ext wS w13 := Below.trans hE12 hb13
      have hx6t : Ext w6 w12 := hx7.trans (hx8.trans (hx810.trans (hx11.trans hx12)))
      have hs65 : w5.heap.size ≤ W5.heap.size := hxW5.size
      have hs66 : W5.heap.size ≤ w6.heap.size := hx6.size
      have o12 := ownsRow_ext o8 (hx810.trans (hx11.trans hx12))
      have o13 := own_same (w' := w13) o12 (fun q hq => ht13 q (by have := (o8.lt q hq).1; omega) (o12.lt q hq).2)
      have hs13 : W5.heap.size ≤ w13.heap.size := by have a := hx6t.size; have b := hb13.size; omega
      have MW := markInt64SST_c W5.heap.size _ ws (1 + ((2 * m.rules.length + totM m.rules : Nat) : Int)) w6 w13 o6 (fun q h1 h2 => (ht13 q (by omega) (Nat.lt_of_lt_of_le h2 hx6t.size)).trans (Below.block hx6t q h2)) hs13 (by omega) (by omega)
      clear MK m0 m1 m2 m3
      -- region 20
      go_wp2_with fail
      refine MW.mono ?_
      rintro e w14 ⟨rfl, hb14, ht14⟩
      have hE14 : Ext wS w14 := Below.trans hE13 (Below.mono hb14 hE5.size)
      have o14 := own_same (w' := w14) o13 (fun q hq => ht14 q (o8.lt q hq).1 (o13.lt q hq).2)
      have hk1 : decide ((1 : Int) + ((2 * m.rules.length + totM m.rules : Nat) : Int) + (tot ws : Int) < 0) = false := decide_eq_false (by omega)
      have EQ := eqStringS_c _ _ _ L (ownsRow_row o14) (iS.ext hE14)
      have HLE : Hid (L.length ≤ 601) := Lib.hid HSS.out.len
      clear MW
      -- region 21
      go_wp2_with fail
      refine EQ.mono ?_
      rintro e w15 ⟨rfl, hx15⟩
      have hE15 := hE14.trans hx15
      have o15 := ownsRow_ext o14 hx15
      have MSt := markStringS_c w6.heap.size _ L 1 w15 o15 (by omega) (by have := HLE.out; omega)
      clear EQ
      -- region 24
      go_wp2_with fail
      refine MSt.mono ?_
      rintro e w16' ⟨rfl, oN, hg16⟩
      have hS6 : wS.heap.size ≤ w6.heap.size := hE6.size
      have hE16' : Ext wS w16' := hE15.grown hg16 (fun g hg => Nat.le_trans hS6 (o15.lt g hg).1)
      have hNL := Lib.hid (mkL_length 1 L.length)
      have iN := ownsRow_row oN
      have HS := heldStringS_c _ 1 L.length w16' iN (by omega) (by have := HLE.out; omega)
      clear MSt
      -- region 26
      go_wp2_with fail
      refine HS.mono ?_
      rintro e w16 ⟨rfl, hx16⟩
      have hE16 := hE16'.trans hx16
      have hXw16 := hXC.trans hE16
      have bM16 := bMC.ext hE16
      have m0 := bM16.cell 0
      have m1 := bM16.cell 1
      have m2 := bM16.cell 2
      have m3 := bM16.cell 3
      simp only [List.getElem?_toArray, List.getElem?_cons_zero, List.getElem?_cons_succ] at m0 m1 m2 m3
      have hk2 : decide ((1 : Int) + (L.length : Int) < 0) = false := decide_eq_false (by omega)
      have TM := toMulti_c (.agg #[.int .i64 m.tp, .int .i64 m.sy, .int .i64 m.st, .slice Ar m.rules.length cr]) m w16 ⟨_, rfl, hr.ext hXw16⟩ hlen
      clear HS
      -- region 31
      go_wp2_with fail
      refine TM.mono ?_
      rintro e wa ⟨ra, rfl, oa, hxa⟩
      obtain ⟨Aa, ca, rfl, _, _⟩ := oa.form
      have TW := toInt64SS_c _ ws wa (h'.ext (hXw16.trans hxa)) hwl
      clear TM m0 m1 m2 m3
      go_wp2_with fail
      refine TW.mono ?_
      rintro e wb ⟨ub, rfl, ob, hxb⟩
      obtain ⟨vsb, rb, ib⟩ := words_own ob hwl
      obtain ⟨Ab, cb, rfl, _, _, _⟩ := rb.form
      have MT := OneTapeTexts_c m (.agg #[.int .i64 m.tp, .int .i64 m.sy, .int .i64 m.st, .slice Aa m.rules.length ca]) _ ws vsb n wb ⟨_, rfl, (oa.ext hxb).own.rules⟩ rb (fun i hi => by
        obtain ⟨u, e, iu, hf, _⟩ := ib i hi
        exact ⟨u, e, iu, hf⟩) (hTb.ext (hXw16.trans (hxa.trans hxb)))
      clear TW
      go_wp2_with fail
      refine MT.mono ?_
      rintro e wh ⟨L2, k2, tvH, rfl, oH, hHH, hxH⟩
      obtain ⟨hL, hK⟩ := OTxt.unique HSS.out hHH
      subst hL hK
      clear hHH MT
      obtain ⟨AH, cH, rfl, _, _, _⟩ := (ownsRow_row oH).form
      have hxh := hxa.trans (hxb.trans hxH)
      have hEH := hE16.trans hxh
      have EQ := eqStringS_c _ _ _ L (ownsRow_row oH) (iS.ext hEH)
      -- region 32
      go_wp2_with fail
      refine EQ.mono ?_
      rintro e w17 ⟨rfl, hx17⟩
      have hLast := (hx16.trans hxh).trans hx17
      have HS := heldStringS_c _ 1 L.length w17 (iN.ext hLast) (by omega) (by have := HLE.out; omega)
      clear EQ
      -- region 35
      go_wp2_with fail
      refine HS.mono ?_
      rintro e w18 ⟨rfl, hx18⟩
      go_wp2
      go_ret
      exact ⟨rfl, ((hXC.trans hE16').trans hLast).trans hx18⟩
end Go.Proofs.YtfghojbbofobeaaGreatDoor
end
section
namespace Go.Proofs.YtfghojbbofobeaaGreatDoor
open Go Go.RowKit Go.ChangeShapes Go.WideShapes Go.Deep Go.Joins
section
variable {H : Type} {enc : TypeId × Value → H} {w : World}
theorem open_introws {t : TypeId} {fuel : Nat} {v : Value} {x : DataW H × List MemPlace} (ht : Tryz.prog.underlying t = some (.slice 44)) (h : DataW.trod enc Tryz.prog w 0 (fun _ => true) true fuel t [v] = some x) : ∃ xss, IntRows w v xss := by
  obtain ⟨ls, xs, h1, h2⟩ := open_rows (size := 1) (fun cs (a : List Int) => ∃ u, cs = [u] ∧ Ints w u a) ht (by kernel_rfl) (by omega) (fun n cs y hy => by
    rcases DataW.trod_slice Tryz.underlying44 hy with ⟨rfl, _⟩ | ⟨a, len, cap, _, _, _, _, rfl, _⟩
    · obtain ⟨zs, hz⟩ := open_ints Tryz.underlying44 hy
      exact ⟨zs, _, rfl, hz⟩
    · obtain ⟨zs, hz⟩ := open_ints Tryz.underlying44 hy
      exact ⟨zs, _, rfl, hz⟩) h
  have hl : xs.length = ls.length := by obtain ⟨_, _, _, _, _, q⟩ := h1.form; omega
  refine ⟨ls, xs, h1, fun i hi => ?_⟩
  obtain ⟨u, e, hu⟩ := h2 i hi
  refine ⟨u, ?_, hu⟩
  have hi' : i < xs.length := by omega
  rw [Nat.mul_one, List.drop_eq_getElem_cons hi'] at e
  simp only [List.take_succ_cons, List.take_zero, List.cons.injEq, and_true] at e
  rw [List.getElem?_eq_getElem hi', e]
end
end Go.Proofs.YtfghojbbofobeaaGreatDoor
end
section
namespace Go.Proofs.YtfghojbbofobeaaGreatDoor
open Go Go.RowKit Go.ChangeShapes Go.WideShapes Go.ChangeAt Go.Deep Go.Joins
section
variable {H : Type} {enc : TypeId × Value → H} {w : World}
theorem trod_struct5 {P : Program} {base : Nat} {spare : Nat → Bool} {held : Bool} {t : TypeId} {f0 f1 f2 f3 f4 : Field} {fuel : Nat} {cs : List Value} {x : DataW H × List MemPlace} (ht : P.underlying t = some (.struct #[f0, f1, f2, f3, f4])) (h : DataW.trod enc P w base spare held fuel t cs = some x) :
    ∃ y0 y1 y2 y3 y4 n, cs.length = P.cellsOf t ∧ DataW.trod enc P w base spare held n f0.type ((cs.drop f0.offset).take (P.cellsOf f0.type)) = some y0 ∧
      DataW.trod enc P w base spare held n f1.type ((cs.drop f1.offset).take (P.cellsOf f1.type)) = some y1 ∧ DataW.trod enc P w base spare held n f2.type ((cs.drop f2.offset).take (P.cellsOf f2.type)) = some y2 ∧
      DataW.trod enc P w base spare held n f3.type ((cs.drop f3.offset).take (P.cellsOf f3.type)) = some y3 ∧ DataW.trod enc P w base spare held n f4.type ((cs.drop f4.offset).take (P.cellsOf f4.type)) = some y4 := by
  obtain ⟨xs, n, _, rfl, hl, hlen, hf⟩ := DataW.trod_struct ht h
  match xs, hlen with
  | [y0, y1, y2, y3, y4], _ => exact ⟨y0, y1, y2, y3, y4, n, hl, by simpa using hf 0 f0 rfl, by simpa using hf 1 f1 rfl, by simpa using hf 2 f2 rfl, by simpa using hf 3 f3 rfl, by simpa using hf 4 f4 rfl⟩
theorem cellsMRule : Tryz.prog.cellsOf 98 = 5 := by kernel_rfl
theorem cellsInts : Tryz.prog.cellsOf 44 = 1 := by kernel_rfl
theorem open_mrules {t : TypeId} {fuel : Nat} {v : Value} {x : DataW H × List MemPlace} (ht : Tryz.prog.underlying t = some (.slice 98)) (h : DataW.trod enc Tryz.prog w 0 (fun _ => true) true fuel t [v] = some x) : ∃ rs, MRules w v rs := by
  obtain ⟨ls, xs, h1, h2⟩ := open_rows (size := 5) (fun cs (r : MRuleD) => cs.length = 5 ∧ cs[0]? = some (.int .i64 r.st) ∧ (∃ u, cs[1]? = some u ∧ Ints w u r.rd) ∧ (∃ u, cs[2]? = some u ∧ Ints w u r.wr) ∧ (∃ u, cs[3]? = some u ∧ Ints w u r.mv) ∧ cs[4]? = some (.int .i64 r.nx)) ht (by kernel_rfl) (by omega) (fun n cs y hy => by
    obtain ⟨y0, y1, y2, y3, y4, n', hlen, g0, g1, g2, g3, g4⟩ := trod_struct5 Tryz.underlying98 hy
    have hlen5 : cs.length = 5 := hlen.trans cellsMRule
    simp only [cellsI64, cellsInts] at g0 g1 g2 g3 g4
    match cs, hlen5 with
    | [a, b, c, d, e], _ =>
      simp only [List.drop_succ_cons, List.drop_zero, List.take_succ_cons, List.take_zero] at g0 g1 g2 g3 g4
      obtain ⟨k0, e0, _⟩ := open_i64 Tryz.underlying2 g0
      obtain ⟨k4, e4, _⟩ := open_i64 Tryz.underlying2 g4
      obtain ⟨z1, i1⟩ := open_ints Tryz.underlying44 g1
      obtain ⟨z2, i2⟩ := open_ints Tryz.underlying44 g2
      obtain ⟨z3, i3⟩ := open_ints Tryz.underlying44 g3
      simp only [List.cons.injEq, and_true] at e0 e4
      subst e0 e4
      exact ⟨⟨k0, z1, z2, z3, k4⟩, rfl, rfl, ⟨_, rfl, i1⟩, ⟨_, rfl, i2⟩, ⟨_, rfl, i3⟩, rfl⟩) h
  refine ⟨ls, ?_⟩
  obtain ⟨A, c, hv, hc1, hc2, hl⟩ := h1.form
  refine ⟨A, c, hv, hc1, hc2, fun hn => ?_⟩
  obtain ⟨A', c', hv', _, _, hl', hcl⟩ := id h1
  obtain ⟨b, off, hA, hcell⟩ := hcl (by omega)
  rw [hv] at hv'
  injection hv' with hv' _ _
  subst hv'
  refine ⟨b, off, hA, fun i hi => ?_⟩
  obtain ⟨q5, q0, ⟨u1, q1, i1⟩, ⟨u2, q2, i2⟩, ⟨u3, q3, i3⟩, q4⟩ := h2 i hi
  have hlt : i * 5 + 5 ≤ xs.length := by
    have : (i + 1) * 5 ≤ ls.length * 5 := Nat.mul_le_mul_right _ hi
    omega
  have ce : ∀ k, k < 5 → w.cell? ⟨b, off + i * 5 + k, none⟩ = ((xs.drop (i * 5)).take 5)[k]? := fun k hk => by
    rw [List.getElem?_take_of_lt hk, List.getElem?_drop]
    have := hcell (i * 5 + k) (by omega)
    rw [← Nat.add_assoc] at this
    exact this
  refine ⟨u1, u2, u3, (ce 0 (by omega)).trans q0, (ce 1 (by omega)).trans q1, (ce 2 (by omega)).trans q2, (ce 3 (by omega)).trans q3, (ce 4 (by omega)).trans q4, i1, i2, i3⟩
set_option maxRecDepth 100000 in
theorem open_mult {r : Reach} {b0 : Nat} {v : Value} {d : DataW H} {p : List MemPlace} (hv : Value.okWide Tryz.prog w r b0 24 v) (h : DataW.Trod enc Tryz.prog w 0 (fun _ => true) true 24 v d p) : ∃ m, Mult w v m := by
  obtain ⟨v0, v1, v2, v3, y0, y1, y2, y3, n, rfl, _, _, h0, h1, h2, h3⟩ := open_agg4 Tryz.underlying24 (by kernel_rfl) (by kernel_rfl) hv h
  obtain ⟨k0, e0, _⟩ := open_i64 Tryz.underlying2 h0
  obtain ⟨k1, e1, _⟩ := open_i64 Tryz.underlying2 h1
  obtain ⟨k2, e2, _⟩ := open_i64 Tryz.underlying2 h2
  obtain ⟨rs, hr⟩ := open_mrules Tryz.underlying22 h3
  injection e0 with e0 _
  injection e1 with e1 _
  injection e2 with e2 _
  subst e0 e1 e2
  exact ⟨⟨k0, k1, k2, rs⟩, v3, rfl, hr⟩
set_option maxRecDepth 100000 in
theorem open_words {r : Reach} {b0 : Nat} {v : Value} {d : DataW H} {p : List MemPlace} (hv : Value.okWide Tryz.prog w r b0 25 v) (h : DataW.Trod enc Tryz.prog w 0 (fun _ => true) true 25 v d p) : ∃ xss, IntRows w v xss := by
  obtain ⟨a, l, c, rfl⟩ := okWide_slice Tryz.underlying25 hv
  obtain ⟨n, h⟩ := h
  exact open_introws Tryz.underlying25 h
end
end Go.Proofs.YtfghojbbofobeaaGreatDoor
end
