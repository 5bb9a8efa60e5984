/- Contract of the reference's trace of a machine that is a part of a maker. The machine is valid and the configuration is one of its.
Plain words: a machine that is built by its places is a valid one.
What the machine with two symbols does in its places, in plain words: its places are good ones, the machine is valid. -/
import Derived.Test.YthhjbmlkncdigaaGreatDoorB17
import Derived.Test.YthhjbmlkncdigaaGreatDoorB21
import Derived.Maps.AppendAt
import Derived.Test.YthhjbmlkncdigaaGreatDoorB08
import Derived.Test.YthhjbmlkncdigaaGreatDoorB09
section
set_option linter.unusedSimpArgs false
set_option linter.unusedVariables false
namespace Go.Proofs.YthhjbmlkncdigaaGreatDoor
open Go Go.RowKit Go.Proofs
set_option maxHeartbeats 400000
theorem confInfo : (Tryz.prog.info? 37).map (fun i => (i.zero, i.size, i.bytes)) = some (some (.agg #[.int .i64 0, .slice none 0 0, .slice none 0 0]), 3, 56) := by kernel_rfl
/-- What a trace comes to. -/
def TrOut (w : World) (M : MachD) (x : ConfD) (N : Nat) (e : Ending) (w' : World) : Prop :=
  (∃ T tv vs, EndAt M x N T ∧ e = .returned (.tuple #[tv, .bool true]) ∧ CfL w.heap.size w' M x vs tv (T + 1) ∧ Ext w w') ∨
    ((∃ T, FullAt M x N T) ∧ e = .returned (.tuple #[.slice none 0 0, .bool false]) ∧ Ext w w')
/-- What holds between two rounds of a trace. -/
structure TrSt (w : World) (M : MachD) (x : ConfD) (go t : Nat) (tv : Value) (wr : World) : Prop where
  now : ∃ lv rv bl br, Blk wr go 37 #[.int .i64 (cfgI M x t).q, lv, rv] ∧ OwnInts bl wr lv (cfgI M x t).l ∧ OwnInts br wr rv (cfgI M x t).r
  list : ∃ vs, CfL w.heap.size wr M x vs tv (t + 1)
  apart : tv.ownBlock ≠ some go
  ext : Ext w wr
  runs : RunsTo M x t
theorem ownConfigD_c (bc : Nat) (c : ConfD) (w : World) (h : ConfP w bc c) (hl : c.l.length ≤ 1048576) (hr : c.r.length ≤ 1048576) :
    Calls Tryz.prog 83 #[.pointer (some ⟨bc, 0, none⟩)] w fun e w' => ∃ lv rv bl br, e = .returned (.agg #[.int .i64 c.q, lv, rv]) ∧ OwnInts bl w' lv c.l ∧ OwnInts br w' rv c.r ∧ Ext w w' :=
  (ownConfig_c bc c w h hl hr).mono (fun e w' hh => by
    obtain ⟨v, h1, ⟨lv, rv, bl, br, h2, h3, h4⟩, h5⟩ := hh
    exact ⟨lv, rv, bl, br, by rw [h1, h2]; rfl, h3, h4, h5⟩)
set_option maxRecDepth 100000 in
set_option maxHeartbeats 8000000 in
theorem l05Trace_c (b : Nat) (M : MachD) (x : ConfD) (lv0 rv0 : Value) (N : Nat) (w : World) (hm : MachO w b M) (hok : machOk M = true) (hc : confB M x = true) (hl : Ints w lv0 x.l) (hr : Ints w rv0 x.r) (hN : N ≤ 100000) :
    Calls Tryz.prog 49 #[.pointer (some ⟨b, 4, none⟩), .agg #[.int .i64 x.q, lv0, rv0], .int .i64 N] w (TrOut w M x N) := by
  obtain ⟨i0, hi, hz0, hz1, hz2⟩ := info_parts confInfo
  obtain ⟨Al, cl, rfl, _, _⟩ := hl.form
  obtain ⟨Ar, cr, rfl, _, _⟩ := hr.form
  obtain ⟨hg, hfit, htd⟩ := conf_good hc
  have hfi : fitI x = true := by simp [fitI, hfit]
  obtain ⟨W, hW⟩ : ∃ W, W = w.alloc (.cells #[.int .i64 x.q, .slice Al x.l.length cl, .slice Ar x.r.length cr] 37) := ⟨_, rfl⟩
  have hX : Ext w W := by rw [hW]; exact Ext.alloc _ _
  have bB : Blk W w.heap.size 37 #[.int .i64 x.q, .slice Al x.l.length cl, .slice Ar x.r.length cr] := by rw [hW]; exact Blk.new _ _ _ _ rfl
  have hCP : ConfP W w.heap.size x := ⟨_, _, bB.cell 0, bB.cell 1, bB.cell 2, hl.ext hX, hr.ext hX⟩
  have HCB := Lib.hid hc
  clear hc
  go_enter Tryz.func49, Tryz.ntmps49
  go_wp2_with fail
  rw [← hW]
  clear hW
  refine (ownConfigD_c _ x W hCP (by omega) (by omega)).mono ?_
  rintro e w1 ⟨lv1, rv1, bl1, br1, rfl, ol1, or1, hx1⟩
  obtain ⟨A1, c1, rfl, _, _⟩ := ol1.ints.form
  obtain ⟨A2, c2, rfl, _, _⟩ := or1.ints.form
  obtain ⟨W1, hW1⟩ : ∃ W1, W1 = w1.alloc (.cells #[.int .i64 x.q, .slice A1 x.l.length c1, .slice A2 x.r.length c2] 37) := ⟨_, rfl⟩
  have hX1 : Ext w1 W1 := by rw [hW1]; exact Ext.alloc _ _
  have hs1 : w.heap.size < w1.heap.size := by have := bB.lt; have := hx1.size; omega
  have hL1 : CfL w.heap.size W1 M x (fun _ => (.slice A1 x.l.length c1, .slice A2 x.r.length c2)) (.slice (some ⟨w1.heap.size, 0, none⟩) 1 1) 1 := by
    refine ⟨?_, fun i hi => ?_⟩
    · rw [hW1]
      exact ownsRow_blk 3 1 (Blk.new w1 _ _ #[.int .i64 x.q, .slice A1 x.l.length c1, .slice A2 x.r.length c2] rfl) (by omega) rfl (by omega)
    · obtain rfl : i = 0 := by omega
      exact ⟨bl1, br1, OwnInts.ext ol1 hX1, OwnInts.ext or1 hX1⟩
  have hCP1 := hCP.ext (hx1.trans hX1)
  have hz1' : W1.heap.size = w1.heap.size + 1 := by rw [hW1]; simp
  go_wp2_with fail
  rw [← hW1]
  clear hW1
  refine (ownConfigD_c _ x W1 hCP1 (by omega) (by omega)).mono ?_
  rintro e w2 ⟨lv2, rv2, bl2, br2, rfl, ol2, or2, hx2⟩
  obtain ⟨A3, c3, rfl, _, _⟩ := ol2.ints.form
  obtain ⟨A4, c4, rfl, _, _⟩ := or2.ints.form
  obtain ⟨W2, hW2⟩ : ∃ W2, W2 = w2.alloc (.cells #[.int .i64 x.q, .slice A3 x.l.length c3, .slice A4 x.r.length c4] 37) := ⟨_, rfl⟩
  have hX2 : Ext w2 W2 := by rw [hW2]; exact Ext.alloc _ _
  have hs2 : w1.heap.size < w2.heap.size := by have := hx2.size; omega
  have st1 : TrSt w M x w2.heap.size 0 (.slice (some ⟨w1.heap.size, 0, none⟩) 1 1) W2 := ⟨⟨.slice A3 x.l.length c3, .slice A4 x.r.length c4, bl2, br2, by rw [hW2]; exact Blk.new _ _ _ _ rfl, OwnInts.ext ol2 hX2, OwnInts.ext or2 hX2⟩, ⟨_, hL1.ext (hx2.trans hX2)⟩, by simp [Value.ownBlock]; omega, (((hX.trans hx1).trans hX1).trans hx2).trans hX2, RunsTo.zero hfi⟩
  go_wp2
  rw [← hW2]
  clear hW2
  clear hL1 hCP1 hCP bB ol1 or1 ol2 or2 hX1 hX2 hx1 hx2
  have hgo : w.heap.size ≤ w2.heap.size := by omega
  generalize w2.heap.size = go at *
  generalize w1.heap.size = g1 at *
  go_loopw [2, 8] (fun n tv wr => ∃ t : Nat, t ≤ N ∧ n = .int .i64 ((N : Int) - (t : Int)) ∧ TrSt w M x go t tv wr) (fun n _ _ => (intOf n).toNat)
  case atStart => exact ⟨0, Nat.zero_le _, by simp, st1⟩
  case round =>
    clear st1
    obtain ⟨t, ht, rfl, st⟩ := hrel
    obtain ⟨lv, rv, bl, br, bN, oL, oR⟩ := st.now
    obtain ⟨vs, hL⟩ := st.list
    obtain ⟨AL, cL, rfl, _, _⟩ := oL.ints.form
    obtain ⟨AR, cR_, rfl, _, _⟩ := oR.ints.form
    obtain ⟨At, ct, rfl, _, _, _⟩ := (ownsRow_row hL.own).form
    have hap := st.apart
    have hXr := st.ext
    have n0 := bN.cell 0
    have n1 := bN.cell 1
    have n2 := bN.cell 2
    simp only [List.getElem?_toArray, List.getElem?_cons_zero, List.getElem?_cons_succ] at n0 n1 n2
    have hcb := run_confM hok HCB.out st.runs
    obtain ⟨k, cok, hlk⟩ := cok_of hok hcb
    obtain ⟨hgd, ⟨f1, f2⟩, htd'⟩ := conf_good hcb
    have HRUN := Lib.hid st.runs
    by_cases hlt : t < N
    · have i1 : (0 : Int) < (N : Int) - (t : Int) := by omega
      go_wp2_with fail
      refine (l05HaltsO_c b go M (cR (cfgI M x t)) k wr (hm.ext hXr) ⟨_, _, n0, n1, n2, oL.ints, oR.ints⟩ cok).mono ?_
      rintro e w3 ⟨rfl, hx3⟩
      have hno := hlk cok.kl
      have L1 := hL.ext hx3
      have b1 := bN.ext hx3
      have X3 := hXr.trans hx3
      have m0 := b1.cell 0
      have m1 := b1.cell 1
      have m2 := b1.cell 2
      simp only [List.getElem?_toArray, List.getElem?_cons_zero, List.getElem?_cons_succ] at m0 m1 m2
      by_cases hq : M.rules[k]'cok.kl = noR
      · rw [decide_eq_true hq]
        have HT : Hid (EndAt M x N t) := ⟨HRUN.out, ht, .inr (by rw [hno]; exact hq)⟩
        clear hq hno
        go_wp2
        go_ret2
        exact .inl ⟨t, _, vs, HT.out, rfl, L1, X3⟩
      · rw [decide_eq_false hq]
        have HNO : Hid (¬ lookI M (cfgI M x t) = noR) := by unfold Hid; rw [hno]; exact hq
        have enext : stepC (M.rules[k]'cok.kl) (cR (cfgI M x t)) = cR (cfgI M x (t + 1)) := by
          rw [← hno]; exact stepC_eq htd'
        have eb : (decide ((stepC (M.rules[k]'cok.kl) (cR (cfgI M x t))).l.length ≤ 200) && decide ((stepC (M.rules[k]'cok.kl) (cR (cfgI M x t))).r.length ≤ 200)) = fitI (cfgI M x (t + 1)) := by rw [enext]; rfl
        go_wp2_with fail
        refine (l05StepO_c b go M (cR (cfgI M x t)) k w3 (hm.ext X3) ⟨_, _, m0, m1, m2, (oL.ext hx3).ints, (oR.ext hx3).ints⟩ cok f1).mono ?_
        rintro e w4 ⟨v4, rfl, hv4, hx4⟩
        rw [eb]
        rw [enext] at hv4
        have hv4' : ∃ lv rv bl br, v4 = .agg #[.int .i64 (cfgI M x (t + 1)).q, lv, rv] ∧ OwnInts bl w4 lv (cfgI M x (t + 1)).l ∧ OwnInts br w4 rv (cfgI M x (t + 1)).r := hv4
        clear hv4 eb enext hq hno
        obtain ⟨lv4, rv4, bl4, br4, rfl, ol4, or4⟩ := hv4'
        obtain ⟨A5, c5, rfl, _, _⟩ := ol4.ints.form
        obtain ⟨A6, c6, rfl, _, _⟩ := or4.ints.form
        have L4 := L1.ext hx4
        have b4 := b1.ext hx4
        have X4 := X3.trans hx4
        have hgs : go < w4.heap.size := b4.lt
        generalize hcn : cfgI M x (t + 1) = cn at *
        have HCN := Lib.hid hcn
        clear hcn
        cases hfq : fitI cn with
        | false =>
          have HF : Hid (FullAt M x N (t + 1)) := ⟨by omega, by simpa using HRUN.out, by omega, by simpa using HNO.out, by rw [HCN.out]; exact hfq⟩
          clear hfq
          go_wp2
          go_ret2
          exact .inr ⟨⟨t + 1, HF.out⟩, rfl, X4.trans (Ext.alloc _ _)⟩
        | true =>
          have HR1 : Hid (RunsTo M x (t + 1)) := Lib.hid (HRUN.out.succ HNO.out (by rw [HCN.out]; exact hfq))
          have hlens : cn.l.length ≤ 200 ∧ cn.r.length ≤ 200 := by simpa [fitI] using hfq
          clear hfq
          have hXa : Ext w4 (w4.alloc (.cells #[.int .i64 cn.q, .slice A5 cn.l.length c5, .slice A6 cn.r.length c6] 37)) := Ext.alloc _ _
          have bX : Blk (w4.alloc (.cells #[.int .i64 cn.q, .slice A5 cn.l.length c5, .slice A6 cn.r.length c6] 37)) w4.heap.size 37 #[.int .i64 cn.q, .slice A5 cn.l.length c5, .slice A6 cn.r.length c6] := Blk.new _ _ _ _ rfl
          have x0 := bX.cell 0
          have x1 := bX.cell 1
          have x2 := bX.cell 2
          have gf0 := b4.frozen 0
          have gf1 := b4.frozen 1
          have gf2 := b4.frozen 2
          have g0 := b4.cell 0
          have g1' := b4.cell 1
          have g2 := b4.cell 2
          simp only [List.getElem?_toArray, List.getElem?_cons_zero, List.getElem?_cons_succ] at x0 x1 x2 g0 g1' g2
          have fr5 := own_far_blk ol4 b4 (by decide)
          have fr6 := own_far_blk or4 b4 (by decide)
          have hgw : w.heap.size ≤ go := hgo
          obtain ⟨Y, hY⟩ : ∃ Y, (((w4.setCell ⟨go, 0, none⟩ (.int .i64 cn.q)).setCell ⟨go, 1, none⟩ (.slice A5 cn.l.length c5)).setCell ⟨go, 2, none⟩ (.slice A6 cn.r.length c6)).alloc (.cells #[.int .i64 cn.q, .slice A5 cn.l.length c5, .slice A6 cn.r.length c6] 37) = Y := ⟨_, rfl⟩
          have bY : Blk Y go 37 #[.int .i64 cn.q, .slice A5 cn.l.length c5, .slice A6 cn.r.length c6] := by rw [← hY]; exact (((b4.set_ 0 _).set_ 1 _).set_ 2 _).alloc _
          have olY : OwnInts bl4 Y (.slice A5 cn.l.length c5) cn.l := by rw [← hY]; exact OwnInts.ext (ownsRow_far (ownsRow_far (ownsRow_far ol4 fr5 _) fr5 _) fr5 _) (Ext.alloc _ _)
          have orY : OwnInts br4 Y (.slice A6 cn.r.length c6) cn.r := by rw [← hY]; exact OwnInts.ext (ownsRow_far (ownsRow_far (ownsRow_far or4 fr6 _) fr6 _) fr6 _) (Ext.alloc _ _)
          have XY : Ext w Y := by rw [← hY]; exact (((X4.setCell (p := ⟨go, 0, none⟩) hgw _).setCell (p := ⟨go, 1, none⟩) hgw _).setCell (p := ⟨go, 2, none⟩) hgw _).trans (Ext.alloc _ _)
          have LY : CfL w.heap.size Y M x vs (.slice At (t + 1) ct) (t + 1) := by
            rw [← hY]
            exact (((L4.set (p := ⟨go, 0, none⟩) b4 hap _).set (p := ⟨go, 1, none⟩) (b4.set_ 0 _) hap _).set (p := ⟨go, 2, none⟩) ((b4.set_ 0 _).set_ 1 _) hap _).ext (Ext.alloc _ _)
          have hCY : ConfP Y go cn := ⟨_, _, bY.cell 0, bY.cell 1, bY.cell 2, olY.ints, orY.ints⟩
          go_wp2_with fail
          try rw [hY]
          clear hY bX x0 x1 x2 g0 g1' g2 gf0 gf1 gf2 hXa fr5 fr6
          refine (ownConfigD_c _ cn Y hCY (by omega) (by omega)).mono ?_
          rintro e w5 ⟨lv5, rv5, bl5, br5, rfl, ol5, or5, hx5⟩
          obtain ⟨A7, c7, rfl, _, _⟩ := ol5.ints.form
          obtain ⟨A8, c8, rfl, _, _⟩ := or5.ints.form
          have b5 := bY.ext hx5
          have L5 := LY.ext hx5
          have X5 := XY.trans hx5
          have hsz := X5.size
          have hgs5 : go < w5.heap.size := b5.lt
          go_wp2_with (at_builtin; refine wpList_append_own_at _ rfl _ _ 56 rfl w.heap.size 37 i0 (.agg #[.int .i64 0, .slice none 0 0, .slice none 0 0]) 3 56 Tryz.underlying56 hi hz0 hz1 hz2 rfl (by decide) _ _ _ rfl (ownsRow_ext L5.own (Ext.alloc _ _)) ⟨w5.heap.size, 0, none⟩ 1 1 [.int .i64 cn.q, .slice A7 cn.l.length c7, .slice A8 cn.r.length c8] rfl rfl ?c1 ?c2 ?c3 ?c4 ?c5 ?_)
          case c1 =>
            intro j u hj
            match j, hj with
            | 0, hj => simp at hj; subst hj; simp [Addr.add]
            | 1, hj => simp at hj; subst hj; simp [Addr.add]
            | 2, hj => simp at hj; subst hj; simp [Addr.add]
          case c2 => intro u hu; simp at hu; rcases hu with rfl | rfl | rfl <;> rfl
          case c3 => unfold maxLen; omega
          case c4 => omega
          case c5 => simp; omega
          intro v' w6 hown' hgrow _ hat
          have L5a := L5.ext (Ext.alloc w5 (.cells #[.int .i64 cn.q, .slice A7 cn.l.length c7, .slice A8 cn.r.length c8] 37))
          have hXa5 := Ext.alloc w5 (.cells #[.int .i64 cn.q, .slice A7 cn.l.length c7, .slice A8 cn.r.length c8] 37)
          have hs6 : ∀ {b : Nat} {v : Value} {zs : List Int}, OwnInts b (w5.alloc (.cells #[.int .i64 cn.q, .slice A7 cn.l.length c7, .slice A8 cn.r.length c8] 37)) v zs → OwnInts b w6 v zs := fun {b v zs} o => own_same o (fun g hgl => hgrow.block g (o.lt g hgl).2 (fun e => ownrow_ne o L5a.own (by decide) g hgl e.symm))
          have HS : Hid (TrSt w M x go (t + 1) v' w6) := by
            refine ⟨⟨.slice A5 cn.l.length c5, .slice A6 cn.r.length c6, bl4, br4, ?_, ?_, ?_⟩, ⟨_, L5a.push (lv := .slice A7 cn.l.length c7) (rv := .slice A8 cn.r.length c8) (bl := bl5) (br := br5) hgrow ?_ ?_ ?_⟩, ?_, (X5.trans hXa5).grown hgrow (fun b hb => (L5a.own.lt b hb).1), HR1.out⟩
            · rw [HCN.out]; exact (b5.ext hXa5).kept hgrow (fun e => hap e.symm)
            · rw [HCN.out]; exact hs6 ((olY.ext hx5).ext hXa5)
            · rw [HCN.out]; exact hs6 ((orY.ext hx5).ext hXa5)
            · rw [HCN.out]; simpa [List.range_succ, triC] using hown'
            · rw [HCN.out]; exact OwnInts.ext ol5 hXa5
            · rw [HCN.out]; exact OwnInts.ext or5 hXa5
            · rcases hat with e | e
              · rw [e]; exact hap
              · rw [e]; simp; omega
          clear hown' hgrow hat hs6
          go_wp2
          go_roundw
          case rel => exact ⟨t + 1, by omega, by first | go_num | (congr 1; omega), HS.out⟩
          case measure => simp [intOf]; omega
    · obtain rfl : t = N := by omega
      have HT : Hid (EndAt M x t t) := ⟨HRUN.out, Nat.le_refl _, .inl rfl⟩
      rw [show ((t : Int) - (t : Int)) = 0 by omega]
      go_wp2
      go_ret2
      exact .inl ⟨t, _, vs, HT.out, rfl, hL, hXr⟩
theorem l19Run_c (b : Nat) (M : MachD) (x : ConfD) (lv0 rv0 : Value) (N : Nat) (w : World) (hm : MachO w b M) (hok : machOk M = true) (hc : confB M x = true) (hl : Ints w lv0 x.l) (hr : Ints w rv0 x.r) (hN : N ≤ 100000) :
    Calls Tryz.prog 22 #[.pointer (some ⟨b, 4, none⟩), .agg #[.int .i64 x.q, lv0, rv0], .int .i64 N] w (TrOut w M x N) := by
  obtain ⟨Al, cl, rfl, _, _⟩ := hl.form
  obtain ⟨Ar, cr, rfl, _, _⟩ := hr.form
  obtain ⟨W, hW⟩ : ∃ W, W = w.alloc (.cells #[.int .i64 x.q, .slice Al x.l.length cl, .slice Ar x.r.length cr] 37) := ⟨_, rfl⟩
  have hX : Ext w W := by rw [hW]; exact Ext.alloc _ _
  have hT := l05Trace_c b M x _ _ N W (hm.ext hX) hok hc (hl.ext hX) (hr.ext hX) hN
  have hs := hX.size
  go_enter Tryz.func22, Tryz.ntmps22
  go_wp2_with fail
  rw [← hW]
  clear hW
  refine hT.mono ?_
  rintro e w' (⟨T, tv, vs, hE, rfl, hL, hx⟩ | ⟨hF, rfl, hx⟩)
  · have HE := Lib.hid hE
    clear hE
    go_wp2
    go_ret2
    exact .inl ⟨T, tv, vs, HE.out, rfl, ⟨ownsRow_base hL.own hs, hL.sides⟩, hX.trans hx⟩
  · have HF := Lib.hid hF
    clear hF
    go_wp2
    go_ret2
    exact .inr ⟨HF.out, rfl, hX.trans hx⟩
end Go.Proofs.YthhjbmlkncdigaaGreatDoor
end
section
set_option linter.unusedSimpArgs false
set_option linter.unusedVariables false
namespace Go.Proofs.YthhjbmlkncdigaaGreatDoor
open Go Go.RowKit Go.Proofs
section
variable {α : Type} [DecidableEq α]
/-- What holds of a machine that is being built. -/
structure BOk (Q : α → Prop) (sy : Nat) (s : List α × List RuleD) : Prop where
  all : ∀ p ∈ s.1, Q p
  rules : ∀ r ∈ s.2, r = noR ∨ ((0 ≤ r.w ∧ r.w < sy) ∧ (r.m = 1 ∨ r.m = -1) ∧ 0 ≤ r.n ∧ r.n < s.1.length)
theorem BOk.sym {Q : α → Prop} {act : α → Int → ActG α} {sy : Nat} {p : α} {s : List α × List RuleD} {v : Int} (h : BOk Q sy s)
    (ha : (act p v).no = false → Q (act p v).p ∧ (0 ≤ (act p v).w ∧ (act p v).w < sy) ∧ ((act p v).m = 1 ∨ (act p v).m = -1)) : BOk Q sy (symStep act p s v) := by
  cases e : (act p v).no with
  | true =>
    rw [symStep_no e]
    refine ⟨h.all, fun r hr => ?_⟩
    rcases List.mem_append.1 hr with hr | hr
    · exact h.rules r hr
    · left; simpa using hr
  | false =>
    obtain ⟨h1, h2, h3⟩ := ha e
    rw [symStep_yes e]
    refine ⟨addP_all h.all h1, fun r hr => ?_⟩
    have hl := addP_length s.1 (act p v).p
    rcases List.mem_append.1 hr with hr | hr
    · rcases h.rules r hr with c | ⟨a, b, c, d⟩
      · exact .inl c
      · exact .inr ⟨a, b, c, by simp only; omega⟩
    · simp only [List.mem_singleton] at hr
      subst hr
      right
      have hi := List.idxOf_lt_length_iff.2 (addP_mem s.1 (act p v).p)
      exact ⟨h2, h3, Int.natCast_nonneg _, by simp only; omega⟩
theorem BOk.row {Q : α → Prop} {act : α → Int → ActG α} {sy : Nat} {p : α} {s : List α × List RuleD} (h : BOk Q sy s)
    (ha : ∀ v : Nat, v < sy → (act p v).no = false → Q (act p v).p ∧ (0 ≤ (act p v).w ∧ (act p v).w < sy) ∧ ((act p v).m = 1 ∨ (act p v).m = -1)) : ∀ n, n ≤ sy → BOk Q sy (rowTo act p s n) := by
  intro n
  induction n with
  | zero => intro _; exact h
  | succ n ih => intro hn; exact (ih (by omega)).sym (ha n (by omega))
theorem bldF_ok {Q : α → Prop} {act : α → Int → ActG α} {d : α} {sy : Nat}
    (ha : ∀ p, Q p → ∀ v : Nat, v < sy → (act p v).no = false → Q (act p v).p ∧ (0 ≤ (act p v).w ∧ (act p v).w < sy) ∧ ((act p v).m = 1 ∨ (act p v).m = -1)) :
    ∀ f k s t, bldF act d sy f k s = some t → BOk Q sy s → s.2.length = k * sy → k ≤ s.1.length → 1 ≤ s.1.length → s.1.length ≤ 1000 → BOk Q sy t ∧ t.2.length = t.1.length * sy ∧ 1 ≤ t.1.length ∧ t.1.length ≤ 1000 := by
  intro f
  induction f with
  | zero => intro k s t h; simp [bldF] at h
  | succ f ih =>
    intro k s t h hb hl hk h1 h2
    simp only [bldF] at h
    split at h
    · rename_i hlt
      split at h
      · cases h
      · rename_i hmost
        have hp : s.1.getD k d ∈ s.1 := by
          rw [List.getD_eq_getElem?_getD, List.getElem?_eq_getElem hlt]
          exact List.getElem_mem hlt
        have hlen := rowTo_length act (s.1.getD k d) s sy
        refine ih (k + 1) _ t h (hb.row (ha _ (hb.all _ hp)) sy (Nat.le_refl _)) ?_ (by omega) (by omega) (by omega)
        rw [hlen.2.2, hl, Nat.succ_mul]
    · rename_i hge
      cases h
      have hkk : k = s.1.length := by omega
      exact ⟨hb, by rw [hl, hkk], h1, h2⟩
end
end Go.Proofs.YthhjbmlkncdigaaGreatDoor
end
section
set_option linter.unusedSimpArgs false
set_option linter.unusedVariables false
namespace Go.Proofs.YthhjbmlkncdigaaGreatDoor
open Go Go.RowKit Go.Proofs
/-- A place of the machine with two symbols. -/
structure BP where
  k : Int
  a : Int
  b : Int
  c : Int
deriving DecidableEq
def BP.v (p : BP) : Value := .agg #[.int .i64 p.k, .int .i64 p.a, .int .i64 p.b, .int .i64 p.c]
theorem BP.v_inj (x y : BP) (h : x.v = y.v) : x = y := by
  cases x; cases y
  simp only [BP.v] at h
  injection h with h
  simp at h
  simp [h]
def bp0 : BP := ⟨0, 0, 0, 0⟩
def ActB (a : ActG BP) : Value := .agg #[.int .i64 a.w, .int .i64 a.m, .int .i64 a.p.k, .int .i64 a.p.a, .int .i64 a.p.b, .int .i64 a.p.c, .bool a.no]
def noB : ActG BP := ⟨0, 0, ⟨0, 0, 0, 0⟩, true⟩
/-- The number of bits of a symbol. -/
def bitsD (sy : Int) : Int := if sy ≤ 2 then 1 else if sy ≤ 4 then 2 else 3
/-- A bit of the code of a symbol. -/
def bitD (s b i : Int) : Int := s / 2 ^ (b - 1 - i).toNat % 2
def ruleB (m : MachD) (a : Int) : RuleD := m.rules.getD a.toNat noR
def readB (m : MachD) (p : BP) (v : Int) : ActG BP :=
  if p.b < bitsD m.sy - 1 then ⟨v, 1, ⟨0, p.a, p.b + 1, 2 * p.c + v⟩, false⟩
  else if 2 * p.c + v < m.sy then
    if ruleB m (p.a * m.sy + (2 * p.c + v)) = noR then noB
    else if bitsD m.sy = 1 then ⟨(ruleB m (p.a * m.sy + (2 * p.c + v))).w, (ruleB m (p.a * m.sy + (2 * p.c + v))).m, ⟨0, (ruleB m (p.a * m.sy + (2 * p.c + v))).n, 0, 0⟩, false⟩
    else ⟨bitD (ruleB m (p.a * m.sy + (2 * p.c + v))).w (bitsD m.sy) (bitsD m.sy - 1), -1, ⟨1, p.a * m.sy + (2 * p.c + v), bitsD m.sy - 2, 0⟩, false⟩
  else noB
def actB (m : MachD) (p : BP) (v : Int) : ActG BP :=
  if p.k = 0 then readB m p v
  else if p.k = 1 then
    if 0 < p.b then ⟨bitD (ruleB m p.a).w (bitsD m.sy) p.b, -1, ⟨1, p.a, p.b - 1, 0⟩, false⟩
    else ⟨bitD (ruleB m p.a).w (bitsD m.sy) p.b, (ruleB m p.a).m, ⟨2, p.a, bitsD m.sy - 1, 0⟩, false⟩
  else if p.b = 1 then ⟨v, (ruleB m p.a).m, ⟨0, (ruleB m p.a).n, 0, 0⟩, false⟩
  else ⟨v, (ruleB m p.a).m, ⟨2, p.a, p.b - 1, 0⟩, false⟩
/-- The index of a rule that says what to do. -/
structure RuB (m : MachD) (a : Int) : Prop where
  a0 : 0 ≤ a
  a1 : a < m.rules.length
  is : ruleB m a ≠ noR
/-- A place that comes up. -/
def BiOk (m : MachD) (p : BP) : Prop :=
  (p.k = 0 ∧ 0 ≤ p.a ∧ p.a < m.st ∧ 0 ≤ p.b ∧ p.b < bitsD m.sy ∧ 0 ≤ p.c ∧ p.c ≤ 3 ∧ (p.b = 0 → p.c = 0) ∧ (p.b = 1 → p.c ≤ 1)) ∨
  (p.k = 1 ∧ RuB m p.a ∧ 0 ≤ p.b ∧ p.b ≤ bitsD m.sy - 2 ∧ p.c = 0) ∨ (p.k = 2 ∧ RuB m p.a ∧ 1 ≤ p.b ∧ p.b ≤ bitsD m.sy - 1 ∧ p.c = 0)
theorem bitsD_range (sy : Int) : 1 ≤ bitsD sy ∧ bitsD sy ≤ 3 := by unfold bitsD; split <;> (try split) <;> omega
theorem bitD_range (s b i : Int) : 0 ≤ bitD s b i ∧ bitD s b i ≤ 1 := by unfold bitD; omega
theorem RuB.ok {m : MachD} (hm : machOk m = true) {a : Int} (h : RuB m a) : (0 ≤ (ruleB m a).w ∧ (ruleB m a).w ≤ m.sy - 1) ∧ ((ruleB m a).m = 1 ∨ (ruleB m a).m = -1) ∧ 0 ≤ (ruleB m a).n ∧ (ruleB m a).n < m.st := by
  obtain ⟨a0, a1, hn⟩ := h
  have e0 : ruleB m a = m.rules[a.toNat]'(by omega) := by
    unfold ruleB
    rw [List.getD_eq_getElem?_getD, List.getElem?_eq_getElem (by omega)]; rfl
  have hr : ruleOk m.sy m.st (ruleB m a) = true := by
    have : m.rules.all (ruleOk m.sy m.st) = true := by simp only [machOk, Bool.and_eq_true] at hm; exact hm.2
    rw [e0]
    exact List.all_eq_true.1 this _ (List.getElem_mem _)
  simp only [ruleOk, decide_eq_false hn, Bool.false_or, Bool.and_eq_true] at hr
  have h1 := inB_iff.1 hr.1.1
  have h2 := inB_iff.1 hr.2
  have h3 := hr.1.2
  simp only [Bool.or_eq_true, beq_iff_eq] at h3
  exact ⟨h1, h3, h2.1, by omega⟩
theorem readIx {m : MachD} (hm : machOk m = true) {q y : Int} (q0 : 0 ≤ q) (q1 : q < m.st) (y0 : 0 ≤ y) (y1 : y < m.sy) : 0 ≤ q * m.sy + y ∧ q * m.sy + y < m.rules.length := by
  obtain ⟨s1, s2, s3, s4, hl⟩ := machOk_all hm
  obtain ⟨j, h1, h2⟩ := ruleIx s1 s2 hl q0 q1 y0 y1
  omega
theorem bool_le {m : MachD} (hm : machOk m = true) {w : Int} (h : 0 ≤ w ∧ w ≤ m.sy - 1) (h1 : bitsD m.sy = 1) : w < 2 := by
  unfold bitsD at h1
  split at h1
  · omega
  · split at h1 <;> omega
theorem actB_ok {m : MachD} (hm : machOk m = true) {p : BP} {v : Int} (hp : BiOk m p) (v0 : 0 ≤ v) (v1 : v < 2) (hn : (actB m p v).no = false) :
    BiOk m (actB m p v).p ∧ (0 ≤ (actB m p v).w ∧ (actB m p v).w < 2) ∧ ((actB m p v).m = 1 ∨ (actB m p v).m = -1) := by
  have hb := bitsD_range m.sy
  obtain ⟨k, a, b, c⟩ := p
  rcases hp with ⟨h0, a0, a1, b0, b1, c0, c1, hc, hc1⟩ | ⟨h1, hr, b0, b1, hc⟩ | ⟨h2, hr, b0, b1, hc⟩
  · simp only at h0 a0 a1 b0 b1 c0 c1 hc hc1
    subst h0
    simp only [actB, if_true, readB] at hn ⊢
    by_cases hlt : b < bitsD m.sy - 1
    · rw [if_pos hlt] at hn ⊢
      refine ⟨.inl ⟨rfl, a0, a1, by simp only; omega, by simp only; omega, by simp only; omega, ?_, ?_, ?_⟩, ⟨v0, v1⟩, .inl rfl⟩
      · simp only
        by_cases e : b = 0
        · have := hc e; omega
        · have : b = 1 := by omega
          have := hc1 this; omega
      · simp only; intro e; omega
      · simp only; intro e
        have : b = 0 := by omega
        have := hc this; omega
    · rw [if_neg hlt] at hn ⊢
      by_cases hy : 2 * c + v < m.sy
      · rw [if_pos hy] at hn ⊢
        obtain ⟨i0, i1⟩ := readIx hm a0 a1 (by omega : 0 ≤ 2 * c + v) hy
        by_cases hN : ruleB m (a * m.sy + (2 * c + v)) = noR
        · rw [if_pos hN] at hn; simp [noB] at hn
        · rw [if_neg hN] at hn ⊢
          have hR : RuB m (a * m.sy + (2 * c + v)) := ⟨i0, i1, hN⟩
          obtain ⟨r1, r2, r3, r4⟩ := hR.ok hm
          by_cases h1 : bitsD m.sy = 1
          · rw [if_pos h1]
            exact ⟨.inl ⟨rfl, r3, r4, Int.le_refl _, by simp only; omega, Int.le_refl _, by simp only; omega, fun _ => rfl, fun _ => by simp only; omega⟩, ⟨r1.1, bool_le hm r1 h1⟩, r2⟩
          · rw [if_neg h1]
            have := bitD_range (ruleB m (a * m.sy + (2 * c + v))).w (bitsD m.sy) (bitsD m.sy - 1)
            exact ⟨.inr (.inl ⟨rfl, hR, by simp only; omega, by simp only; omega, rfl⟩), ⟨this.1, by simp only; omega⟩, .inr rfl⟩
      · rw [if_neg hy] at hn; simp [noB] at hn
  · simp only at h1 hr b0 b1 hc
    subst h1
    obtain ⟨r1, r2, r3, r4⟩ := hr.ok hm
    have hbit := bitD_range (ruleB m a).w (bitsD m.sy) b
    simp only [actB, if_true, if_neg (by decide : ¬ (1 : Int) = 0)] at hn ⊢
    by_cases hb0 : 0 < b
    · rw [if_pos hb0] at hn ⊢
      exact ⟨.inr (.inl ⟨rfl, hr, by simp only; omega, by simp only; omega, rfl⟩), ⟨hbit.1, by simp only; omega⟩, .inr rfl⟩
    · rw [if_neg hb0] at hn ⊢
      exact ⟨.inr (.inr ⟨rfl, hr, by simp only; omega, by simp only; omega, rfl⟩), ⟨hbit.1, by simp only; omega⟩, r2⟩
  · simp only at h2 hr b0 b1 hc
    subst h2
    obtain ⟨r1, r2, r3, r4⟩ := hr.ok hm
    simp only [actB, if_neg (by decide : ¬ (2 : Int) = 0), if_neg (by decide : ¬ (2 : Int) = 1)] at hn ⊢
    by_cases hb1 : b = 1
    · rw [if_pos hb1] at hn ⊢
      exact ⟨.inl ⟨rfl, r3, r4, Int.le_refl _, by simp only; omega, Int.le_refl _, by simp only; omega, fun _ => rfl, fun _ => by simp only; omega⟩, ⟨v0, v1⟩, r2⟩
    · rw [if_neg hb1] at hn ⊢
      exact ⟨.inr (.inr ⟨rfl, hr, by simp only; omega, by simp only; omega, rfl⟩), ⟨v0, v1⟩, r2⟩
theorem bp0_ok {m : MachD} (hm : machOk m = true) : BiOk m bp0 := by
  obtain ⟨s1, s2, s3, s4, hl⟩ := machOk_all hm
  have := bitsD_range m.sy
  exact .inl ⟨rfl, Int.le_refl _, by show (0 : Int) < m.st; omega, Int.le_refl _, by show (0 : Int) < bitsD m.sy; omega, Int.le_refl _, by decide, fun _ => rfl, fun _ => by decide⟩
/-- The machine with two symbols, as it is built. -/
def binB (m : MachD) : Option (List BP × List RuleD) := bld (actB m) bp0 2
def binM (s : List BP × List RuleD) : MachD := ⟨2, s.1.length, s.2⟩
theorem bin_ok {m : MachD} (hm : machOk m = true) {s : List BP × List RuleD} (h : binB m = some s) : machOk (binM s) = true ∧ (∀ p ∈ s.1, BiOk m p) := by
  obtain ⟨hb, h1, h2, h3⟩ := bldF_ok (Q := BiOk m) (act := actB m) (d := bp0) (sy := 2) (fun p hp v hv hno => actB_ok hm hp (v := (v : Int)) (by omega) (by omega) hno) 1002 0 ([bp0], []) s h ⟨fun p hp => by simp only [List.mem_singleton] at hp; subst hp; exact bp0_ok hm, fun r hr => by cases hr⟩ (by simp) (by simp) (by simp) (by simp)
  refine ⟨?_, hb.all⟩
  have hmul : (s.2.length : Int) = 2 * (s.1.length : Int) := by omega
  have a2 : inB (s.1.length : Int) 1 1000 = true := inB_iff.2 (by omega)
  have a3 : decide ((s.2.length : Int) = 2 * (s.1.length : Int)) = true := decide_eq_true hmul
  have a4 : s.2.all (ruleOk 2 (s.1.length : Int)) = true := List.all_eq_true.2 (fun r hr => by
    rcases hb.rules r hr with e | ⟨a, b, c, d⟩
    · simp [ruleOk, e]
    · have b1 : inB r.w 0 (2 - 1) = true := inB_iff.2 (by omega)
      have b2 : inB r.n 0 ((s.1.length : Int) - 1) = true := inB_iff.2 (by omega)
      have b3 : (r.m == 1 || r.m == -1) = true := by rcases b with e | e <;> rw [e] <;> rfl
      simp only [ruleOk, b1, b2, b3, Bool.and_true, Bool.or_true, Bool.and_self])
  show (inB 2 2 6 && inB (s.1.length : Int) 1 1000 && decide ((s.2.length : Int) = 2 * (s.1.length : Int)) && s.2.all (ruleOk 2 (s.1.length : Int))) = true
  rw [a2, a3, a4]
  rfl
end Go.Proofs.YthhjbmlkncdigaaGreatDoor
end
