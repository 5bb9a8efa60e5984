/- Contracts of the reference's step of a machine from a valid configuration, and of the laws' one. Each side has at most 199 cells.
Contract of the reference's trace of a machine that is a part of a maker. The machine is valid and the configuration is one of its.
Contract of the reference's question about a number of steps. -/
import Derived.Test.YtfghojbbofobeaaGreatDoorW29
import Derived.Test.YtfghojbbofobeaaGreatDoorW37
import Derived.Test.YtfghojbbofobeaaGreatDoorW27
import Derived.Maps.AppendAt
import Derived.Test.YtfghojbbofobeaaGreatDoorW02
section
set_option linter.unusedSimpArgs false
set_option linter.unusedVariables false
set_option linter.unusedSectionVars false
set_option maxHeartbeats 4000000
namespace Go.Proofs.YtfghojbbofobeaaGreatDoor
open Go Go.RowKit Go.Proofs
theorem cok_of {m : MachD} {c : ConfD} (hm : machOk m = true) (h : confB m c = true) : ∃ k, COk m (cR c) k ∧ ∀ hk : k < m.rules.length, lookI m c = m.rules[k] := by
  obtain ⟨hg, hf, ht⟩ := conf_good h
  obtain ⟨⟨m1, m2, m3, m4⟩, _, _⟩ := machOk_five hm
  obtain ⟨k, hk, e⟩ := hg.idx hm
  have hh := hdD_of hg.r (by omega)
  have := hg.q0
  have := hg.q1
  exact ⟨k, ⟨hg.q0, by show c.q ≤ 1000; omega, m1, m2, hh.1, by have := hh.2; show hdD c.r ≤ 6; omega, hk, e, by show c.l.length ≤ 1000; omega, by show c.r.length ≤ 1000; omega⟩, fun _ => lookI_get hk e⟩
end Go.Proofs.YtfghojbbofobeaaGreatDoor
end
section
set_option linter.unusedSimpArgs false
set_option linter.unusedVariables false
namespace Go.Proofs.YtfghojbbofobeaaGreatDoor
open Go Go.RowKit Go.Proofs
set_option maxHeartbeats 400000
theorem confInfo : (Tryz.prog.info? 52).map (fun i => (i.zero, i.size, i.bytes)) = some (some (.agg #[.int .i64 0, .slice none 0 0, .slice none 0 0]), 3, 56) := by kernel_rfl
/-- What a trace comes to. -/
def TrOut (w : World) (M : MachD) (x : ConfD) (N : Nat) (e : Ending) (w' : World) : Prop :=
  (∃ T tv vs, EndAt M x N T ∧ e = .returned (.tuple #[tv, .bool true]) ∧ CfL w.heap.size w' M x vs tv (T + 1) ∧ Ext w w') ∨
    ((∃ T, FullAt M x N T) ∧ e = .returned (.tuple #[.slice none 0 0, .bool false]) ∧ Ext w w')
/-- What holds between two rounds of a trace. -/
structure TrSt (w : World) (M : MachD) (x : ConfD) (go t : Nat) (tv : Value) (wr : World) : Prop where
  now : ∃ lv rv bl br, Blk wr go 52 #[.int .i64 (cfgI M x t).q, lv, rv] ∧ OwnInts bl wr lv (cfgI M x t).l ∧ OwnInts br wr rv (cfgI M x t).r
  list : ∃ vs, CfL w.heap.size wr M x vs tv (t + 1)
  apart : tv.ownBlock ≠ some go
  ext : Ext w wr
  runs : RunsTo M x t
theorem ownConfigD_c (bc : Nat) (c : ConfD) (w : World) (h : ConfP w bc c) (hl : c.l.length ≤ 1048576) (hr : c.r.length ≤ 1048576) :
    Calls Tryz.prog 90 #[.pointer (some ⟨bc, 0, none⟩)] w fun e w' => ∃ lv rv bl br, e = .returned (.agg #[.int .i64 c.q, lv, rv]) ∧ OwnInts bl w' lv c.l ∧ OwnInts br w' rv c.r ∧ Ext w w' :=
  (ownConfig_c bc c w h hl hr).mono (fun e w' hh => by
    obtain ⟨v, h1, ⟨lv, rv, bl, br, h2, h3, h4⟩, h5⟩ := hh
    exact ⟨lv, rv, bl, br, by rw [h1, h2]; rfl, h3, h4, h5⟩)
set_option maxRecDepth 100000 in
set_option maxHeartbeats 8000000 in
theorem l05Trace_c (b : Nat) (M : MachD) (x : ConfD) (lv0 rv0 : Value) (N : Nat) (w : World) (hm : MachO w b M) (hok : machOk M = true) (hc : confB M x = true) (hl : Ints w lv0 x.l) (hr : Ints w rv0 x.r) (hN : N ≤ 100000) :
    Calls Tryz.prog 51 #[.pointer (some ⟨b, 4, none⟩), .agg #[.int .i64 x.q, lv0, rv0], .int .i64 N] w (TrOut w M x N) := by
  obtain ⟨i0, hi, hz0, hz1, hz2⟩ := info_parts confInfo
  obtain ⟨Al, cl, rfl, _, _⟩ := hl.form
  obtain ⟨Ar, cr, rfl, _, _⟩ := hr.form
  obtain ⟨hg, hfit, htd⟩ := conf_good hc
  have hfi : fitI x = true := by simp [fitI, hfit]
  obtain ⟨W, hW⟩ : ∃ W, W = w.alloc (.cells #[.int .i64 x.q, .slice Al x.l.length cl, .slice Ar x.r.length cr] 52) := ⟨_, rfl⟩
  have hX : Ext w W := by rw [hW]; exact Ext.alloc _ _
  have bB : Blk W w.heap.size 52 #[.int .i64 x.q, .slice Al x.l.length cl, .slice Ar x.r.length cr] := by rw [hW]; exact Blk.new _ _ _ _ rfl
  have hCP : ConfP W w.heap.size x := ⟨_, _, bB.cell 0, bB.cell 1, bB.cell 2, hl.ext hX, hr.ext hX⟩
  have HCB := Lib.hid hc
  clear hc
  go_enter Tryz.func51, Tryz.ntmps51
  go_wp2_with fail
  rw [← hW]
  clear hW
  refine (ownConfigD_c _ x W hCP (by omega) (by omega)).mono ?_
  rintro e w1 ⟨lv1, rv1, bl1, br1, rfl, ol1, or1, hx1⟩
  obtain ⟨A1, c1, rfl, _, _⟩ := ol1.ints.form
  obtain ⟨A2, c2, rfl, _, _⟩ := or1.ints.form
  obtain ⟨W1, hW1⟩ : ∃ W1, W1 = w1.alloc (.cells #[.int .i64 x.q, .slice A1 x.l.length c1, .slice A2 x.r.length c2] 52) := ⟨_, rfl⟩
  have hX1 : Ext w1 W1 := by rw [hW1]; exact Ext.alloc _ _
  have hs1 : w.heap.size < w1.heap.size := by have := bB.lt; have := hx1.size; omega
  have hL1 : CfL w.heap.size W1 M x (fun _ => (.slice A1 x.l.length c1, .slice A2 x.r.length c2)) (.slice (some ⟨w1.heap.size, 0, none⟩) 1 1) 1 := by
    refine ⟨?_, fun i hi => ?_⟩
    · rw [hW1]
      exact ownsRow_blk 3 1 (Blk.new w1 _ _ #[.int .i64 x.q, .slice A1 x.l.length c1, .slice A2 x.r.length c2] rfl) (by omega) rfl (by omega)
    · obtain rfl : i = 0 := by omega
      exact ⟨bl1, br1, OwnInts.ext ol1 hX1, OwnInts.ext or1 hX1⟩
  have hCP1 := hCP.ext (hx1.trans hX1)
  have hz1' : W1.heap.size = w1.heap.size + 1 := by rw [hW1]; simp
  go_wp2_with fail
  rw [← hW1]
  clear hW1
  refine (ownConfigD_c _ x W1 hCP1 (by omega) (by omega)).mono ?_
  rintro e w2 ⟨lv2, rv2, bl2, br2, rfl, ol2, or2, hx2⟩
  obtain ⟨A3, c3, rfl, _, _⟩ := ol2.ints.form
  obtain ⟨A4, c4, rfl, _, _⟩ := or2.ints.form
  obtain ⟨W2, hW2⟩ : ∃ W2, W2 = w2.alloc (.cells #[.int .i64 x.q, .slice A3 x.l.length c3, .slice A4 x.r.length c4] 52) := ⟨_, rfl⟩
  have hX2 : Ext w2 W2 := by rw [hW2]; exact Ext.alloc _ _
  have hs2 : w1.heap.size < w2.heap.size := by have := hx2.size; omega
  have st1 : TrSt w M x w2.heap.size 0 (.slice (some ⟨w1.heap.size, 0, none⟩) 1 1) W2 := ⟨⟨.slice A3 x.l.length c3, .slice A4 x.r.length c4, bl2, br2, by rw [hW2]; exact Blk.new _ _ _ _ rfl, OwnInts.ext ol2 hX2, OwnInts.ext or2 hX2⟩, ⟨_, hL1.ext (hx2.trans hX2)⟩, by simp [Value.ownBlock]; omega, (((hX.trans hx1).trans hX1).trans hx2).trans hX2, RunsTo.zero hfi⟩
  go_wp2
  rw [← hW2]
  clear hW2
  clear hL1 hCP1 hCP bB ol1 or1 ol2 or2 hX1 hX2 hx1 hx2
  have hgo : w.heap.size ≤ w2.heap.size := by omega
  generalize w2.heap.size = go at *
  generalize w1.heap.size = g1 at *
  go_loopw [2, 8] (fun n tv wr => ∃ t : Nat, t ≤ N ∧ n = .int .i64 ((N : Int) - (t : Int)) ∧ TrSt w M x go t tv wr) (fun n _ _ => (intOf n).toNat)
  case atStart => exact ⟨0, Nat.zero_le _, by simp, st1⟩
  case round =>
    clear st1
    obtain ⟨t, ht, rfl, st⟩ := hrel
    obtain ⟨lv, rv, bl, br, bN, oL, oR⟩ := st.now
    obtain ⟨vs, hL⟩ := st.list
    obtain ⟨AL, cL, rfl, _, _⟩ := oL.ints.form
    obtain ⟨AR, cR_, rfl, _, _⟩ := oR.ints.form
    obtain ⟨At, ct, rfl, _, _, _⟩ := (ownsRow_row hL.own).form
    have hap := st.apart
    have hXr := st.ext
    have n0 := bN.cell 0
    have n1 := bN.cell 1
    have n2 := bN.cell 2
    simp only [List.getElem?_toArray, List.getElem?_cons_zero, List.getElem?_cons_succ] at n0 n1 n2
    have hcb := run_confM hok HCB.out st.runs
    obtain ⟨k, cok, hlk⟩ := cok_of hok hcb
    obtain ⟨hgd, ⟨f1, f2⟩, htd'⟩ := conf_good hcb
    have HRUN := Lib.hid st.runs
    by_cases hlt : t < N
    · have i1 : (0 : Int) < (N : Int) - (t : Int) := by omega
      go_wp2_with fail
      refine (l05HaltsO_c b go M (cR (cfgI M x t)) k wr (hm.ext hXr) ⟨_, _, n0, n1, n2, oL.ints, oR.ints⟩ cok).mono ?_
      rintro e w3 ⟨rfl, hx3⟩
      have hno := hlk cok.kl
      have L1 := hL.ext hx3
      have b1 := bN.ext hx3
      have X3 := hXr.trans hx3
      have m0 := b1.cell 0
      have m1 := b1.cell 1
      have m2 := b1.cell 2
      simp only [List.getElem?_toArray, List.getElem?_cons_zero, List.getElem?_cons_succ] at m0 m1 m2
      by_cases hq : M.rules[k]'cok.kl = noR
      · rw [decide_eq_true hq]
        have HT : Hid (EndAt M x N t) := ⟨HRUN.out, ht, .inr (by rw [hno]; exact hq)⟩
        clear hq hno
        go_wp2
        go_ret2
        exact .inl ⟨t, _, vs, HT.out, rfl, L1, X3⟩
      · rw [decide_eq_false hq]
        have HNO : Hid (¬ lookI M (cfgI M x t) = noR) := by unfold Hid; rw [hno]; exact hq
        have enext : stepC (M.rules[k]'cok.kl) (cR (cfgI M x t)) = cR (cfgI M x (t + 1)) := by
          rw [← hno]; exact stepC_eq htd'
        have eb : (decide ((stepC (M.rules[k]'cok.kl) (cR (cfgI M x t))).l.length ≤ 200) && decide ((stepC (M.rules[k]'cok.kl) (cR (cfgI M x t))).r.length ≤ 200)) = fitI (cfgI M x (t + 1)) := by rw [enext]; rfl
        go_wp2_with fail
        refine (l05StepO_c b go M (cR (cfgI M x t)) k w3 (hm.ext X3) ⟨_, _, m0, m1, m2, (oL.ext hx3).ints, (oR.ext hx3).ints⟩ cok f1).mono ?_
        rintro e w4 ⟨v4, rfl, hv4, hx4⟩
        rw [eb]
        rw [enext] at hv4
        have hv4' : ∃ lv rv bl br, v4 = .agg #[.int .i64 (cfgI M x (t + 1)).q, lv, rv] ∧ OwnInts bl w4 lv (cfgI M x (t + 1)).l ∧ OwnInts br w4 rv (cfgI M x (t + 1)).r := hv4
        clear hv4 eb enext hq hno
        obtain ⟨lv4, rv4, bl4, br4, rfl, ol4, or4⟩ := hv4'
        obtain ⟨A5, c5, rfl, _, _⟩ := ol4.ints.form
        obtain ⟨A6, c6, rfl, _, _⟩ := or4.ints.form
        have L4 := L1.ext hx4
        have b4 := b1.ext hx4
        have X4 := X3.trans hx4
        have hgs : go < w4.heap.size := b4.lt
        generalize hcn : cfgI M x (t + 1) = cn at *
        have HCN := Lib.hid hcn
        clear hcn
        cases hfq : fitI cn with
        | false =>
          have HF : Hid (FullAt M x N (t + 1)) := ⟨by omega, by simpa using HRUN.out, by omega, by simpa using HNO.out, by rw [HCN.out]; exact hfq⟩
          clear hfq
          go_wp2
          go_ret2
          exact .inr ⟨⟨t + 1, HF.out⟩, rfl, X4.trans (Ext.alloc _ _)⟩
        | true =>
          have HR1 : Hid (RunsTo M x (t + 1)) := Lib.hid (HRUN.out.succ HNO.out (by rw [HCN.out]; exact hfq))
          have hlens : cn.l.length ≤ 200 ∧ cn.r.length ≤ 200 := by simpa [fitI] using hfq
          clear hfq
          have hXa : Ext w4 (w4.alloc (.cells #[.int .i64 cn.q, .slice A5 cn.l.length c5, .slice A6 cn.r.length c6] 52)) := Ext.alloc _ _
          have bX : Blk (w4.alloc (.cells #[.int .i64 cn.q, .slice A5 cn.l.length c5, .slice A6 cn.r.length c6] 52)) w4.heap.size 52 #[.int .i64 cn.q, .slice A5 cn.l.length c5, .slice A6 cn.r.length c6] := Blk.new _ _ _ _ rfl
          have x0 := bX.cell 0
          have x1 := bX.cell 1
          have x2 := bX.cell 2
          have gf0 := b4.frozen 0
          have gf1 := b4.frozen 1
          have gf2 := b4.frozen 2
          have g0 := b4.cell 0
          have g1' := b4.cell 1
          have g2 := b4.cell 2
          simp only [List.getElem?_toArray, List.getElem?_cons_zero, List.getElem?_cons_succ] at x0 x1 x2 g0 g1' g2
          have fr5 := own_far_blk ol4 b4 (by decide)
          have fr6 := own_far_blk or4 b4 (by decide)
          have hgw : w.heap.size ≤ go := hgo
          obtain ⟨Y, hY⟩ : ∃ Y, (((w4.setCell ⟨go, 0, none⟩ (.int .i64 cn.q)).setCell ⟨go, 1, none⟩ (.slice A5 cn.l.length c5)).setCell ⟨go, 2, none⟩ (.slice A6 cn.r.length c6)).alloc (.cells #[.int .i64 cn.q, .slice A5 cn.l.length c5, .slice A6 cn.r.length c6] 52) = Y := ⟨_, rfl⟩
          have bY : Blk Y go 52 #[.int .i64 cn.q, .slice A5 cn.l.length c5, .slice A6 cn.r.length c6] := by rw [← hY]; exact (((b4.set_ 0 _).set_ 1 _).set_ 2 _).alloc _
          have olY : OwnInts bl4 Y (.slice A5 cn.l.length c5) cn.l := by rw [← hY]; exact OwnInts.ext (ownsRow_far (ownsRow_far (ownsRow_far ol4 fr5 _) fr5 _) fr5 _) (Ext.alloc _ _)
          have orY : OwnInts br4 Y (.slice A6 cn.r.length c6) cn.r := by rw [← hY]; exact OwnInts.ext (ownsRow_far (ownsRow_far (ownsRow_far or4 fr6 _) fr6 _) fr6 _) (Ext.alloc _ _)
          have XY : Ext w Y := by rw [← hY]; exact (((X4.setCell (p := ⟨go, 0, none⟩) hgw _).setCell (p := ⟨go, 1, none⟩) hgw _).setCell (p := ⟨go, 2, none⟩) hgw _).trans (Ext.alloc _ _)
          have LY : CfL w.heap.size Y M x vs (.slice At (t + 1) ct) (t + 1) := by
            rw [← hY]
            exact (((L4.set (p := ⟨go, 0, none⟩) b4 hap _).set (p := ⟨go, 1, none⟩) (b4.set_ 0 _) hap _).set (p := ⟨go, 2, none⟩) ((b4.set_ 0 _).set_ 1 _) hap _).ext (Ext.alloc _ _)
          have hCY : ConfP Y go cn := ⟨_, _, bY.cell 0, bY.cell 1, bY.cell 2, olY.ints, orY.ints⟩
          go_wp2_with fail
          try rw [hY]
          clear hY bX x0 x1 x2 g0 g1' g2 gf0 gf1 gf2 hXa fr5 fr6
          refine (ownConfigD_c _ cn Y hCY (by omega) (by omega)).mono ?_
          rintro e w5 ⟨lv5, rv5, bl5, br5, rfl, ol5, or5, hx5⟩
          obtain ⟨A7, c7, rfl, _, _⟩ := ol5.ints.form
          obtain ⟨A8, c8, rfl, _, _⟩ := or5.ints.form
          have b5 := bY.ext hx5
          have L5 := LY.ext hx5
          have X5 := XY.trans hx5
          have hsz := X5.size
          have hgs5 : go < w5.heap.size := b5.lt
          go_wp2_with (at_builtin; refine wpList_append_own_at _ rfl _ _ 55 rfl w.heap.size 52 i0 (.agg #[.int .i64 0, .slice none 0 0, .slice none 0 0]) 3 56 Tryz.underlying55 hi hz0 hz1 hz2 rfl (by decide) _ _ _ rfl (ownsRow_ext L5.own (Ext.alloc _ _)) ⟨w5.heap.size, 0, none⟩ 1 1 [.int .i64 cn.q, .slice A7 cn.l.length c7, .slice A8 cn.r.length c8] rfl rfl ?c1 ?c2 ?c3 ?c4 ?c5 ?_)
          case c1 =>
            intro j u hj
            match j, hj with
            | 0, hj => simp at hj; subst hj; simp [Addr.add]
            | 1, hj => simp at hj; subst hj; simp [Addr.add]
            | 2, hj => simp at hj; subst hj; simp [Addr.add]
          case c2 => intro u hu; simp at hu; rcases hu with rfl | rfl | rfl <;> rfl
          case c3 => unfold maxLen; omega
          case c4 => omega
          case c5 => simp; omega
          intro v' w6 hown' hgrow _ hat
          have L5a := L5.ext (Ext.alloc w5 (.cells #[.int .i64 cn.q, .slice A7 cn.l.length c7, .slice A8 cn.r.length c8] 52))
          have hXa5 := Ext.alloc w5 (.cells #[.int .i64 cn.q, .slice A7 cn.l.length c7, .slice A8 cn.r.length c8] 52)
          have hs6 : ∀ {b : Nat} {v : Value} {zs : List Int}, OwnInts b (w5.alloc (.cells #[.int .i64 cn.q, .slice A7 cn.l.length c7, .slice A8 cn.r.length c8] 52)) v zs → OwnInts b w6 v zs := fun {b v zs} o => own_same o (fun g hgl => hgrow.block g (o.lt g hgl).2 (fun e => ownrow_ne o L5a.own (by decide) g hgl e.symm))
          have HS : Hid (TrSt w M x go (t + 1) v' w6) := by
            refine ⟨⟨.slice A5 cn.l.length c5, .slice A6 cn.r.length c6, bl4, br4, ?_, ?_, ?_⟩, ⟨_, L5a.push (lv := .slice A7 cn.l.length c7) (rv := .slice A8 cn.r.length c8) (bl := bl5) (br := br5) hgrow ?_ ?_ ?_⟩, ?_, (X5.trans hXa5).grown hgrow (fun b hb => (L5a.own.lt b hb).1), HR1.out⟩
            · rw [HCN.out]; exact (b5.ext hXa5).kept hgrow (fun e => hap e.symm)
            · rw [HCN.out]; exact hs6 ((olY.ext hx5).ext hXa5)
            · rw [HCN.out]; exact hs6 ((orY.ext hx5).ext hXa5)
            · rw [HCN.out]; simpa [List.range_succ, triC] using hown'
            · rw [HCN.out]; exact OwnInts.ext ol5 hXa5
            · rw [HCN.out]; exact OwnInts.ext or5 hXa5
            · rcases hat with e | e
              · rw [e]; exact hap
              · rw [e]; simp; omega
          clear hown' hgrow hat hs6
          go_wp2
          go_roundw
          case rel => exact ⟨t + 1, by omega, by first | go_num | (congr 1; omega), HS.out⟩
          case measure => simp [intOf]; omega
    · obtain rfl : t = N := by omega
      have HT : Hid (EndAt M x t t) := ⟨HRUN.out, Nat.le_refl _, .inl rfl⟩
      rw [show ((t : Int) - (t : Int)) = 0 by omega]
      go_wp2
      go_ret2
      exact .inl ⟨t, _, vs, HT.out, rfl, hL, hXr⟩
theorem l19Run_c (b : Nat) (M : MachD) (x : ConfD) (lv0 rv0 : Value) (N : Nat) (w : World) (hm : MachO w b M) (hok : machOk M = true) (hc : confB M x = true) (hl : Ints w lv0 x.l) (hr : Ints w rv0 x.r) (hN : N ≤ 100000) :
    Calls Tryz.prog 23 #[.pointer (some ⟨b, 4, none⟩), .agg #[.int .i64 x.q, lv0, rv0], .int .i64 N] w (TrOut w M x N) := by
  obtain ⟨Al, cl, rfl, _, _⟩ := hl.form
  obtain ⟨Ar, cr, rfl, _, _⟩ := hr.form
  obtain ⟨W, hW⟩ : ∃ W, W = w.alloc (.cells #[.int .i64 x.q, .slice Al x.l.length cl, .slice Ar x.r.length cr] 52) := ⟨_, rfl⟩
  have hX : Ext w W := by rw [hW]; exact Ext.alloc _ _
  have hT := l05Trace_c b M x _ _ N W (hm.ext hX) hok hc (hl.ext hX) (hr.ext hX) hN
  have hs := hX.size
  go_enter Tryz.func23, Tryz.ntmps23
  go_wp2_with fail
  rw [← hW]
  clear hW
  refine hT.mono ?_
  rintro e w' (⟨T, tv, vs, hE, rfl, hL, hx⟩ | ⟨hF, rfl, hx⟩)
  · have HE := Lib.hid hE
    clear hE
    go_wp2
    go_ret2
    exact .inl ⟨T, tv, vs, HE.out, rfl, ⟨ownsRow_base hL.own hs, hL.sides⟩, hX.trans hx⟩
  · have HF := Lib.hid hF
    clear hF
    go_wp2
    go_ret2
    exact .inr ⟨HF.out, rfl, hX.trans hx⟩
end Go.Proofs.YtfghojbbofobeaaGreatDoor
end
section
set_option linter.unusedSimpArgs false
set_option linter.unusedVariables false
namespace Go.Proofs.YtfghojbbofobeaaGreatDoor
open Go Go.RowKit Go.Proofs
set_option maxHeartbeats 400000
theorem l19Steps_c (n : Int) (w : World) : Calls Tryz.prog 20 #[.int .i64 n] w fun e w' => e = .returned (.bool (inB n 0 599)) ∧ w = w' := by
  have hI := l00In_c n 0 599 w
  generalize inB n 0 599 = b at *
  go_enter Tryz.func20, Tryz.ntmps20
  go_wp2_with fail
  refine hI.mono ?_
  rintro e w' ⟨rfl, rfl⟩
  go_wp2
  go_ret
  exact ⟨rfl, rfl⟩
end Go.Proofs.YtfghojbbofobeaaGreatDoor
end
