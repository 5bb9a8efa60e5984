/- Contract of the reference's run of a machine that is a part of a maker. The machine is valid and the configuration is one of its.
The reference's way to the tape of a line, in plain words. No program stands here.
Contract of the reference's tape of a configuration of the machine with one tape for several. -/
import Derived.Test.YtfghojbbofobeaaGreatQ35
import Derived.Test.YtfghojbbofobeaaGreatQ29
import Derived.Test.YtfghojbbofobeaaGreatQ38
import Derived.Deep.RegionHeld3
import Derived.Test.YtfghojbbofobeaaGreatQ25
section
set_option linter.unusedSimpArgs false
set_option linter.unusedVariables false
namespace Go.Proofs.YtfghojbbofobeaaGreat
open Go Go.RowKit Go.Proofs
set_option maxHeartbeats 400000
/-- What the reference's run comes to. -/
def RunSO (w : World) (M : MachD) (x : ConfD) (N : Nat) (e : Ending) (w' : World) : Prop :=
  ((∃ T v, EndAt M x N T ∧ e = .returned (.tuple #[v, .int .i64 T, .bool (decide (lookI M (cfgI M x T) = noR)), .bool true]) ∧ ConfV w' v (cR (cfgI M x T))) ∨
    ((∃ T, FullAt M x N T) ∧ e = .returned (.tuple #[.agg #[.int .i64 0, .slice none 0 0, .slice none 0 0], .int .i64 0, .bool false, .bool false]))) ∧ Ext w w'
structure RnSt (w : World) (M : MachD) (x : ConfD) (go t : Nat) (wr : World) : Prop where
  res : Blk wr (w.heap.size + 1) 54 #[.int .i64 0, .slice none 0 0, .slice none 0 0]
  now : ∃ lv rv bl br, Blk wr go 54 #[.int .i64 (cfgI M x t).q, lv, rv] ∧ OwnInts bl wr lv (cfgI M x t).l ∧ OwnInts br wr rv (cfgI M x t).r
  ext : Ext w wr
  runs : RunsTo M x t
theorem RnSt.ext' {w : World} {M : MachD} {x : ConfD} {go t : Nat} {wr w' : World} (h : RnSt w M x go t wr) (he : Ext wr w') : RnSt w M x go t w' := by
  obtain ⟨h1, ⟨lv, rv, bl, br, h2, h3, h4⟩, h5, h6⟩ := h
  exact ⟨h1.ext he, ⟨lv, rv, bl, br, h2.ext he, h3.ext he, h4.ext he⟩, h5.trans he, h6⟩
theorem ownConfigC_c (bc : Nat) (c : ConfD) (w : World) (h : ConfP w bc c) (hl : c.l.length ≤ 1048576) (hr : c.r.length ≤ 1048576) :
    Calls Tryz.prog 50 #[.pointer (some ⟨bc, 0, none⟩)] w fun e w' => ∃ lv rv bl br, e = .returned (.agg #[.int .i64 c.q, lv, rv]) ∧ OwnInts bl w' lv c.l ∧ OwnInts br w' rv c.r ∧ Ext w w' :=
  (ownConfig_c bc c w h hl hr).mono (fun e w' hh => by
    obtain ⟨v, h1, ⟨lv, rv, bl, br, h2, h3, h4⟩, h5⟩ := hh
    exact ⟨lv, rv, bl, br, by rw [h1, h2]; rfl, h3, h4, h5⟩)
set_option maxRecDepth 100000 in
set_option maxHeartbeats 8000000 in
theorem l05RunO_c (b : Nat) (M : MachD) (x : ConfD) (lv0 rv0 : Value) (N : Nat) (w : World) (hm : MachO w b M) (hok : machOk M = true) (hc : confB M x = true) (hl : Ints w lv0 x.l) (hr : Ints w rv0 x.r) (hN : N ≤ 100000) :
    Calls Tryz.prog 23 #[.pointer (some ⟨b, 4, none⟩), .agg #[.int .i64 x.q, lv0, rv0], .int .i64 N] w (RunSO w M x N) := by
  obtain ⟨Al, cl, rfl, _, _⟩ := hl.form
  obtain ⟨Ar, cr, rfl, _, _⟩ := hr.form
  obtain ⟨hg, hfit, htd⟩ := conf_good hc
  have hfi : fitI x = true := by simp [fitI, hfit]
  obtain ⟨W, hW⟩ : ∃ W, W = (w.alloc (.cells #[.int .i64 x.q, .slice Al x.l.length cl, .slice Ar x.r.length cr] 54)).alloc (.cells #[.int .i64 0, .slice none 0 0, .slice none 0 0] 54) := ⟨_, rfl⟩
  have hX : Ext w W := by rw [hW]; exact (Ext.alloc _ _).trans (Ext.alloc _ _)
  have bB : Blk W w.heap.size 54 #[.int .i64 x.q, .slice Al x.l.length cl, .slice Ar x.r.length cr] := by rw [hW]; exact (Blk.new _ _ _ _ rfl).alloc _
  have bR : Blk W (w.heap.size + 1) 54 #[.int .i64 0, .slice none 0 0, .slice none 0 0] := by rw [hW]; exact Blk.new _ _ _ _ (by simp)
  have hCP : ConfP W w.heap.size x := ⟨_, _, bB.cell 0, bB.cell 1, bB.cell 2, hl.ext hX, hr.ext hX⟩
  have HCB := Lib.hid hc
  clear hc
  have OC := ownConfigC_c _ x W hCP (by omega) (by omega)
  go_enter Tryz.func23, Tryz.ntmps23
  go_wp2_with fail
  rw [← hW]
  clear hW
  refine OC.mono ?_
  rintro e w1 ⟨lv1, rv1, bl1, br1, rfl, ol1, or1, hx1⟩
  clear OC
  obtain ⟨A1, c1, rfl, _, _⟩ := ol1.ints.form
  obtain ⟨A2, c2, rfl, _, _⟩ := or1.ints.form
  obtain ⟨W1, hW1⟩ : ∃ W1, W1 = w1.alloc (.cells #[.int .i64 x.q, .slice A1 x.l.length c1, .slice A2 x.r.length c2] 54) := ⟨_, rfl⟩
  have hX1 : Ext w1 W1 := by rw [hW1]; exact Ext.alloc _ _
  have st1 : RnSt w M x w1.heap.size 0 W1 := ⟨bR.ext (hx1.trans hX1), ⟨.slice A1 x.l.length c1, .slice A2 x.r.length c2, bl1, br1, by rw [hW1]; exact Blk.new _ _ _ _ rfl, OwnInts.ext ol1 hX1, OwnInts.ext or1 hX1⟩, (hX.trans hx1).trans hX1, RunsTo.zero hfi⟩
  have hgo : w.heap.size + 1 < w1.heap.size := by have := bR.lt; have := hx1.size; omega
  go_wp2
  rw [← hW1]
  clear hW1
  generalize w1.heap.size = go at *
  go_loopw [11] (fun i wr => ∃ t : Nat, t ≤ N ∧ i = .int .i64 t ∧ RnSt w M x go t wr) (fun i _ => N - (intOf i).toNat)
  case atStart => exact ⟨0, Nat.zero_le _, rfl, st1⟩
  case round =>
    clear st1 ol1 or1 hX1 hx1 bB bR hCP
    obtain ⟨t, ht, rfl, st⟩ := hrel
    obtain ⟨lv, rv, bl, br, bN, oL, oR⟩ := st.now
    obtain ⟨AL, cL, rfl, _, _⟩ := oL.ints.form
    obtain ⟨AR, cR_, rfl, _, _⟩ := oR.ints.form
    have n0 := bN.cell 0
    have n1 := bN.cell 1
    have n2 := bN.cell 2
    simp only [List.getElem?_toArray, List.getElem?_cons_zero, List.getElem?_cons_succ] at n0 n1 n2
    have hcb := run_confM hok HCB.out st.runs
    obtain ⟨k, cok, hlk⟩ := cok_of hok hcb
    obtain ⟨hgd, ⟨f1, f2⟩, htd'⟩ := conf_good hcb
    have HRUN := Lib.hid st.runs
    have hg1 : w.heap.size ≤ w.heap.size + 1 := by omega
    have ne1 : w.heap.size + 1 ≠ go := by omega
    by_cases hlt : t < N
    · have i1 : (t : Int) < (N : Int) := by omega
      go_wp2_with fail
      refine (l05HaltsO_c b go M (cR (cfgI M x t)) k wr (hm.ext st.ext) ⟨_, _, n0, n1, n2, oL.ints, oR.ints⟩ cok).mono ?_
      rintro e w1 ⟨rfl, hx1⟩
      have hno := hlk cok.kl
      have s1 := st.ext' hx1
      have b1 := bN.ext hx1
      have m0 := b1.cell 0
      have m1 := b1.cell 1
      have m2 := b1.cell 2
      simp only [List.getElem?_toArray, List.getElem?_cons_zero, List.getElem?_cons_succ] at m0 m1 m2
      by_cases hq : M.rules[k]'cok.kl = noR
      · rw [decide_eq_true hq]
        obtain ⟨D1, D2⟩ := conf_done (n := (cfgI M x t).q) s1.ext hg1 s1.res (oL.ext hx1) (oR.ext hx1)
        have HD1 := Lib.hid D1
        have HD2 := Lib.hid D2
        have hl0 : lookI M (cfgI M x t) = noR := by rw [hno]; exact hq
        have HT : Hid (EndAt M x N t) := ⟨HRUN.out, ht, .inr hl0⟩
        have HB : Hid (decide (lookI M (cfgI M x t) = noR) = true) := Lib.hid (decide_eq_true hl0)
        have d := s1.res.cell
        have f := s1.res.frozen
        clear D1 D2 hq hno hl0
        go_wp2
        refine bodyPost_ret (v := .tuple #[.agg #[.int .i64 (cfgI M x t).q, .slice AL (cfgI M x t).l.length cL, .slice AR (cfgI M x t).r.length cR_], .int .i64 t, .bool true, .bool true]) ?_ rfl ⟨.inl ⟨t, _, HT.out, by rw [HB.out], HD1.out⟩, HD2.out⟩
        simp [results, Tryz.results23, go_sem, d]
      · rw [decide_eq_false hq]
        have HNO : Hid (¬ lookI M (cfgI M x t) = noR) := by unfold Hid; rw [hno]; exact hq
        have enext : stepC (M.rules[k]'cok.kl) (cR (cfgI M x t)) = cR (cfgI M x (t + 1)) := by
          rw [← hno]; exact stepC_eq htd'
        have eb : (decide ((stepC (M.rules[k]'cok.kl) (cR (cfgI M x t))).l.length ≤ 200) && decide ((stepC (M.rules[k]'cok.kl) (cR (cfgI M x t))).r.length ≤ 200)) = fitI (cfgI M x (t + 1)) := by rw [enext]; rfl
        go_wp2_with fail
        refine (l05StepO_c b go M (cR (cfgI M x t)) k w1 (hm.ext s1.ext) ⟨_, _, m0, m1, m2, (oL.ext hx1).ints, (oR.ext hx1).ints⟩ cok f1).mono ?_
        rintro e w2 ⟨v2, rfl, hv2, hx2⟩
        rw [eb]
        rw [enext] at hv2
        have hv2' : ∃ lv rv bl br, v2 = .agg #[.int .i64 (cfgI M x (t + 1)).q, lv, rv] ∧ OwnInts bl w2 lv (cfgI M x (t + 1)).l ∧ OwnInts br w2 rv (cfgI M x (t + 1)).r := hv2
        clear hv2 eb enext hq hno
        obtain ⟨lv2, rv2, bl2, br2, rfl, ol2, or2⟩ := hv2'
        obtain ⟨A3, c3, rfl, _, _⟩ := ol2.ints.form
        obtain ⟨A4, c4, rfl, _, _⟩ := or2.ints.form
        generalize hcn : cfgI M x (t + 1) = cn at *
        have HCN := Lib.hid hcn
        clear hcn
        obtain ⟨X, hXe⟩ : ∃ X, X = w2.alloc (.cells #[.int .i64 cn.q, .slice A3 cn.l.length c3, .slice A4 cn.r.length c4] 54) := ⟨_, rfl⟩
        have hX2 : Ext w2 X := by rw [hXe]; exact Ext.alloc _ _
        have bX : Blk X w2.heap.size 54 #[.int .i64 cn.q, .slice A3 cn.l.length c3, .slice A4 cn.r.length c4] := by rw [hXe]; exact Blk.new _ _ _ _ rfl
        have sX := s1.ext' (hx2.trans hX2)
        have bG := b1.ext (hx2.trans hX2)
        have oX3 := OwnInts.ext ol2 hX2
        have oX4 := OwnInts.ext or2 hX2
        have hgo2 : go ≠ w2.heap.size := by have := b1.lt; have := hx2.size; omega
        subst hXe
        cases hfq : fitI cn with
        | false =>
          have HF : Hid (FullAt M x N (t + 1)) := ⟨by omega, by simpa using HRUN.out, by omega, by simpa using HNO.out, by rw [HCN.out]; exact hfq⟩
          have oN : OwnInts 0 (w2.alloc (.cells #[.int .i64 cn.q, .slice A3 cn.l.length c3, .slice A4 cn.r.length c4] 54)) (.slice none 0 0) [] := ⟨by simp, .inl ⟨rfl, rfl⟩⟩
          obtain ⟨D1, D2⟩ := conf_done (n := 0) sX.ext hg1 sX.res oN oN
          have HD2 := Lib.hid D2
          have d := sX.res.cell
          have f := sX.res.frozen
          clear D1 D2 hfq
          go_wp2
          refine bodyPost_ret (v := .tuple #[.agg #[.int .i64 0, .slice none 0 0, .slice none 0 0], .int .i64 0, .bool false, .bool false]) ?_ rfl ⟨.inr ⟨⟨t + 1, HF.out⟩, rfl⟩, HD2.out⟩
          simp [results, Tryz.results23, go_sem, d]
        | true =>
          have HR1 : Hid (RunsTo M x (t + 1)) := Lib.hid (HRUN.out.succ HNO.out (by rw [HCN.out]; exact hfq))
          clear hfq
          have x0 := bX.cell 0
          have x1 := bX.cell 1
          have x2 := bX.cell 2
          have g0 := bG.cell 0
          have g1 := bG.cell 1
          have g2 := bG.cell 2
          have gf := bG.frozen
          simp only [List.getElem?_toArray, List.getElem?_cons_zero, List.getElem?_cons_succ] at x0 x1 x2 g0 g1 g2
          have fr3 := own_far_blk oX3 bG (by decide)
          have fr4 := own_far_blk oX4 bG (by decide)
          have HS : Hid (RnSt w M x go (t + 1) ((((w2.alloc (.cells #[.int .i64 cn.q, .slice A3 cn.l.length c3, .slice A4 cn.r.length c4] 54)).setCell ⟨go, 0, none⟩ (.int .i64 cn.q)).setCell ⟨go, 1, none⟩ (.slice A3 cn.l.length c3)).setCell ⟨go, 2, none⟩ (.slice A4 cn.r.length c4))) := by
            refine ⟨((sX.res.far (p := ⟨go, 0, none⟩) ne1 _).far (p := ⟨go, 1, none⟩) ne1 _).far (p := ⟨go, 2, none⟩) ne1 _, ?_, ((sX.ext.setCell (by simp; omega) _).setCell (by simp; omega) _).setCell (by simp; omega) _, HR1.out⟩
            rw [HCN.out]
            exact ⟨_, _, _, _, ((bG.set_ 0 _).set_ 1 _).set_ 2 _, ownsRow_far (ownsRow_far (ownsRow_far oX3 fr3 _) fr3 _) fr3 _, ownsRow_far (ownsRow_far (ownsRow_far oX4 fr4 _) fr4 _) fr4 _⟩
          go_wp2
          go_roundw
          case rel => exact ⟨t + 1, by omega, by go_num, HS.out⟩
          case measure => simp [intOf]; omega
    · obtain rfl : t = N := by omega
      have hD := (Ext.drew wr)
      have hMd := hm.ext (st.ext.trans hD)
      have hCd : ConfAt wr.drew go (cR (cfgI M x t)) := ⟨_, _, hD.cell n0, hD.cell n1, hD.cell n2, (oL.ext hD).ints, (oR.ext hD).ints⟩
      have ne2 : go ≠ w.heap.size + 1 := fun e => ne1 e.symm
      have i1 : ¬ (t : Int) < (t : Int) := by omega
      have HH := l05HaltsO_c b go M (cR (cfgI M x t)) k wr.drew hMd hCd cok
      rw [← hlk cok.kl] at HH
      have HT : Hid (EndAt M x t t) := ⟨HRUN.out, Nat.le_refl _, .inl rfl⟩
      clear hlk
      go_wp2_with fail
      go_region_held3 (fun w' => w'.cell? ⟨go, 0, none⟩ = some (.int .i64 (cfgI M x t).q) ∧ w'.cell? ⟨go, 1, none⟩ = some (.slice AL (cfgI M x t).l.length cL) ∧ w'.cell? ⟨go, 2, none⟩ = some (.slice AR (cfgI M x t).r.length cR_))
        (first | go_keep | exact ⟨EX1.cell n0, EX1.cell n1, EX1.cell n2⟩ | exact ⟨y0, y1, y2⟩)
        ((go_at_call 51; ((with_reducible refine HH.mono ?_)); rintro e w1 ⟨rfl, hx1⟩; have EX1 := hD.trans hx1; have s1 := st.ext' EX1; obtain ⟨D1, D2⟩ := conf_done (n := (cfgI M x t).q) s1.ext hg1 s1.res (oL.ext EX1) (oR.ext EX1); have HD1 := Lib.hid D1; have HD2 := Lib.hid D2; have r0 := s1.res.cell 0; have r1 := s1.res.cell 1; have r2 := s1.res.cell 2; have rf0 := s1.res.frozen 0; have rf1 := s1.res.frozen 1; have rf2 := s1.res.frozen 2; have bOf := (((bN.ext EX1).far (p := ⟨w.heap.size + 1, 0, none⟩) ne2 (.int .i64 (cfgI M x t).q)).far (p := ⟨w.heap.size + 1, 1, none⟩) ne2 (.slice AL (cfgI M x t).l.length cL)).far (p := ⟨w.heap.size + 1, 2, none⟩) ne2 (.slice AR (cfgI M x t).r.length cR_); have y0 := bOf.cell 0; have y1 := bOf.cell 1; have y2 := bOf.cell 2; simp only [List.getElem?_toArray, List.getElem?_cons_zero, List.getElem?_cons_succ] at r0 r1 r2 y0 y1 y2; clear D1 D2))
      all_goals
        have d := (((s1.res.set_ 0 (.int .i64 (cfgI M x t).q)).set_ 1 (.slice AL (cfgI M x t).l.length cL)).set_ 2 (.slice AR (cfgI M x t).r.length cR_)).cell
        go_wp2
        refine bodyPost_ret (v := .tuple #[.agg #[.int .i64 (cfgI M x t).q, .slice AL (cfgI M x t).l.length cL, .slice AR (cfgI M x t).r.length cR_], .int .i64 t, .bool (decide (lookI M (cfgI M x t) = noR)), .bool true]) ?_ rfl ⟨.inl ⟨t, _, HT.out, rfl, HD1.out⟩, HD2.out⟩
        simp [results, Tryz.results23, go_sem, d]
end Go.Proofs.YtfghojbbofobeaaGreat
end
section
set_option linter.unusedSimpArgs false
set_option linter.unusedVariables false
namespace Go.Proofs.YtfghojbbofobeaaGreat
open Go Go.RowKit Go.Proofs
theorem floor_eqA {a b : Int} (hb : b = 2 ∨ b = 3) : (a.tmod b + b).tmod b = a % b := by
  have h1 : -b < a.tmod b ∧ a.tmod b < b := by
    rcases hb with rfl | rfl
    · have := Int.lt_tmod_of_pos a (b := 2) (by omega)
      have := Int.tmod_lt_of_pos a (b := 2) (by omega)
      omega
    · have := Int.lt_tmod_of_pos a (b := 3) (by omega)
      have := Int.tmod_lt_of_pos a (b := 3) (by omega)
      omega
  rw [Int.tmod_eq_emod_of_nonneg (by omega), Int.add_emod_right]
  have h2 := Int.mul_tdiv_add_tmod a b
  have h3 : a % b = (a.tmod b + b * (a.tdiv b)) % b := by rw [Int.add_comm, h2]
  rw [h3, Int.add_mul_emod_self_left]
/-- The number of marked cells. -/
def cntM (sy : Int) (zs : List Int) : Nat := zs.countP (markB sy)
theorem cntM_snoc (sy : Int) (zs : List Int) (y : Int) : cntM sy (zs ++ [y]) = cntM sy zs + if markB sy y then 1 else 0 := by
  unfold cntM
  rw [List.countP_append, List.countP_singleton]
theorem cntM_le (sy : Int) (zs : List Int) : cntM sy zs ≤ zs.length := List.countP_le_length
theorem cntM_zero {sy : Int} {zs : List Int} (h : cntM sy zs = 0) : zs.findIdx? (markB sy) = none :=
  List.findIdx?_eq_none_iff.2 fun x hx => by
    have := List.countP_eq_zero.1 h x hx
    simpa using this
/-- What the place of the last marked cell says. -/
def LastM (sy : Int) (zs : List Int) (hd : Int) : Prop := cntM sy zs = 1 → ∃ h : Nat, hd = h ∧ zs.findIdx? (markB sy) = some h ∧ (zs.drop (h + 1)).any (markB sy) = false
theorem LastM.nil (sy hd : Int) : LastM sy [] hd := fun h => by simp [cntM] at h
theorem find_app {sy : Int} {zs ys : List Int} {h : Nat} (hf : zs.findIdx? (markB sy) = some h) : (zs ++ ys).findIdx? (markB sy) = some h := by
  rw [List.findIdx?_append, hf]
  rfl
theorem LastM.skip {sy : Int} {zs : List Int} {hd : Int} (h : LastM sy zs hd) {y : Int} (hy : markB sy y = false) : LastM sy (zs ++ [y]) hd := fun hc => by
  rw [cntM_snoc, hy] at hc
  obtain ⟨k, e, hf, ha⟩ := h (by simpa using hc)
  have hl := (List.findIdx?_eq_some_iff_getElem.1 hf).1
  refine ⟨k, e, find_app hf, ?_⟩
  rw [List.drop_append_of_le_length (by omega), List.any_append, ha]
  simp [hy]
theorem LastM.mark {sy : Int} {zs : List Int} {y : Int} (hy : markB sy y = true) : LastM sy (zs ++ [y]) (zs.length : Int) := fun hc => by
  rw [cntM_snoc, hy] at hc
  have h0 : cntM sy zs = 0 := by simpa using hc
  refine ⟨zs.length, rfl, ?_, ?_⟩
  · rw [List.findIdx?_append, cntM_zero h0]
    simp [List.findIdx?_cons, hy]
  · rw [List.drop_eq_nil_of_le (by simp)]
    rfl
theorem dec_one {sy : Int} {zs : List Int} {hd : Int} (h : LastM sy zs hd) (hc : cntM sy zs = 1) : ∃ k : Nat, hd = k ∧ k < zs.length ∧ zs.findIdx? (markB sy) = some k ∧ (zs.drop (k + 1)).any (markB sy) = false := by
  obtain ⟨k, e, hf, ha⟩ := h hc
  exact ⟨k, e, (List.findIdx?_eq_some_iff_getElem.1 hf).1, hf, ha⟩
theorem dec_no {sy : Int} {zs : List Int} (hc : cntM sy zs ≠ 1) : tapeDec sy zs = none := by
  cases hf : zs.findIdx? (markB sy) with
  | none => exact tapeDec_none hf
  | some k =>
    obtain ⟨hk, hm, hn⟩ := List.findIdx?_eq_some_iff_getElem.1 hf
    cases ha : (zs.drop (k + 1)).any (markB sy) with
    | true => exact tapeDec_two hf ha
    | false =>
      exfalso
      apply hc
      have e : zs = zs.take k ++ zs[k] :: zs.drop (k + 1) := by rw [← List.drop_eq_getElem_cons hk, List.take_append_drop]
      unfold cntM
      rw [e, List.countP_append, List.countP_cons, hm]
      have h1 : (zs.take k).countP (markB sy) = 0 := List.countP_eq_zero.2 fun x hx => by
        obtain ⟨i, hi, rfl⟩ := List.getElem_of_mem hx
        rw [List.getElem_take]
        simpa using hn i (by rw [List.length_take] at hi; omega)
      have h2 : (zs.drop (k + 1)).countP (markB sy) = 0 := List.countP_eq_zero.2 fun x hx => by
        have := List.any_eq_false.1 ha x hx
        simpa using this
      rw [h1, h2]
      rfl
/-- The cells without their marks. -/
def plainM (sy : Int) (zs : List Int) : List Int := zs.map (· % sy)
theorem plain_take {sy : Int} {zs : List Int} {k : Nat} (hB : ∀ z ∈ zs, 0 ≤ z ∧ z ≤ 2 * sy - 1) (hf : zs.findIdx? (markB sy) = some k) : (plainM sy zs).take k = zs.take k := by
  obtain ⟨hk, hm, hn⟩ := List.findIdx?_eq_some_iff_getElem.1 hf
  unfold plainM
  rw [← List.map_take]
  conv => rhs; rw [← List.map_id (zs.take k)]
  apply List.map_congr_left
  intro x hx
  obtain ⟨i, hi, rfl⟩ := List.getElem_of_mem hx
  rw [List.getElem_take]
  have hi2 : i < k := by rw [List.length_take] at hi; omega
  have h1 := hn i hi2
  have h2 := hB _ (List.getElem_mem (show i < zs.length by omega))
  have h3 : ¬ sy ≤ zs[i] := fun h => h1 (decide_eq_true h)
  exact Int.emod_eq_of_lt h2.1 (by omega)
theorem plain_drop {sy : Int} {zs : List Int} {k : Nat} (hB : ∀ z ∈ zs, 0 ≤ z ∧ z ≤ 2 * sy - 1) (hf : zs.findIdx? (markB sy) = some k) (ha : (zs.drop (k + 1)).any (markB sy) = false) :
    (plainM sy zs).drop k = (zs.getD k 0 - sy) :: zs.drop (k + 1) := by
  obtain ⟨hk, hm, hn⟩ := List.findIdx?_eq_some_iff_getElem.1 hf
  unfold plainM
  rw [← List.map_drop, List.drop_eq_getElem_cons hk, List.map_cons]
  have h2 := hB _ (List.getElem_mem hk)
  have h3 : sy ≤ zs[k] := of_decide_eq_true hm
  have e1 : zs[k] % sy = zs.getD k 0 - sy := by
    rw [List.getD_eq_getElem?_getD, List.getElem?_eq_getElem hk]
    show zs[k] % sy = zs[k] - sy
    rw [← Int.sub_emod_right zs[k] sy]
    exact Int.emod_eq_of_lt (by omega) (by omega)
  rw [e1]
  congr 1
  conv => rhs; rw [← List.map_id (zs.drop (k + 1))]
  apply List.map_congr_left
  intro x hx
  have h4 := hB x (List.mem_of_mem_drop hx)
  have h5 := List.any_eq_false.1 ha x hx
  have h6 : ¬ sy ≤ x := fun h => h5 (decide_eq_true h)
  exact Int.emod_eq_of_lt h4.1 (by omega)
theorem plain_snoc (sy : Int) (zs : List Int) (y : Int) : plainM sy (zs ++ [y]) = plainM sy zs ++ [y % sy] := by simp [plainM]
theorem lineT_hit {T f n : Nat} {xs : List Int} (h : n % T = f) : lineT T f xs (n + 1) = lineT T f xs n ++ [xs.getD n 0] := by
  unfold lineT
  rw [ixT_hit h, List.map_append]
  rfl
theorem lineT_skip {T f n : Nat} {xs : List Int} (h : n % T ≠ f) : lineT T f xs (n + 1) = lineT T f xs n := by
  unfold lineT
  rw [ixT_miss h]
/-- Where a cell is of the tape. -/
theorem first_iff {T t0 j : Int} (hT : T = 2 ∨ T = 3) (h0 : 0 ≤ j) (h1 : j < T) (H i : Nat) : ((t0 + ((i : Int) - H)) % T = j) ↔ i % T.toNat = frstC T t0 j H := by
  unfold frstC
  rcases hT with rfl | rfl
  · simp only [show (2 : Int).toNat = 2 from rfl]
    omega
  · simp only [show (3 : Int).toNat = 3 from rfl]
    omega
end Go.Proofs.YtfghojbbofobeaaGreat
end
section
set_option linter.unusedSimpArgs false
set_option linter.unusedVariables false
namespace Go.Proofs.YtfghojbbofobeaaGreat
open Go Go.RowKit Go.Proofs Go.Maps
set_option maxHeartbeats 400000
def TapeResS (w : World) (r : Option TapeD) (e : Ending) (w' : World) : Prop :=
  ((r = none ∧ e = .returned (.tuple #[.agg #[.slice none 0 0, .slice none 0 0], .bool false])) ∨
    ∃ t lv rv, r = some t ∧ e = .returned (.tuple #[.agg #[lv, rv], .bool true]) ∧ OwnInts w.heap.size w' lv t.l ∧ OwnInts w.heap.size w' rv t.r) ∧ Ext w w'
set_option maxRecDepth 20000 in
set_option maxHeartbeats 8000000 in
theorem l13Tape_c (b bc : Nat) (m : MultiD) (c : ConfD) (t0 j : Int) (w : World) (hM : MulAt w b m) (hm : multiOk m = true) (hC : ConfP w bc c) (hL : c.l.length ≤ 200) (hR : c.r.length ≤ 200)
    (ht0 : 0 ≤ t0) (ht1 : t0 < m.tp) (hj0 : 0 ≤ j) (hj1 : j < m.tp) (hB1 : ∀ z ∈ c.l, 0 ≤ z ∧ z ≤ 2 * m.sy - 1) (hB2 : ∀ z ∈ c.r, 0 ≤ z ∧ z ≤ 2 * m.sy - 1) :
    Calls Tryz.prog 54 #[.pointer (some ⟨b, 0, none⟩), .pointer (some ⟨bc, 0, none⟩), .int .i64 t0, .int .i64 j] w (TapeResS w (tapeDec m.sy (lineC m c t0 j))) := by
  obtain ⟨i0, hi, hz0, hz1, hz2⟩ := info_parts intInfo
  obtain ⟨⟨tp1, tp2⟩, ⟨y1, y2⟩, _⟩ := multi_all hm
  obtain ⟨A, cA, hb, _⟩ := hM
  obtain ⟨lv, qv, _, c1, c2, hl, hr⟩ := hC
  obtain ⟨Al, cl, rfl, _, _⟩ := hl.form
  obtain ⟨Ar, cr, rfl, _, _⟩ := hr.form
  obtain ⟨g, hg⟩ : ∃ g, w.heap.size = g := ⟨_, rfl⟩
  obtain ⟨W0, hW0⟩ : ∃ W, W = w.alloc (.cells #[.slice none 0 0, .slice none 0 0] 106) := ⟨_, rfl⟩
  have hX : Ext w W0 := by rw [hW0]; exact Ext.alloc _ _
  have hW0s : W0.heap.size = g + 1 := by rw [hW0]; simp [hg]
  have HWS := Lib.hid hW0s
  have bO : Blk W0 g 106 #[.slice none 0 0, .slice none 0 0] := by rw [hW0]; exact Blk.new _ _ _ _ hg
  have HBO := Lib.hid bO
  obtain ⟨W, hW⟩ : ∃ W, W = W0.alloc (.cells #[] 2) := ⟨_, rfl⟩
  have hXW : Ext W0 W := by rw [hW]; exact Ext.alloc _ _
  have HOWN : Hid (OwnInts (g + 1) W (.slice (some ⟨g + 1, 0, none⟩) 0 0) (plainM m.sy [])) := Lib.hid (by
    rw [hW]
    have := World.ownsRow_made (base := g + 1) (e := 2) (size := 1) W0 #[] 0 (by rw [hW0s]; exact Nat.le_refl _) (by unfold maxLen; omega) (by simp [ivs])
    rw [hW0s] at this
    exact this)
  have HC1 := Lib.hid (hX.cell c1)
  have HC2 := Lib.hid (hX.cell c2)
  have HMB := Lib.hid (hb.ext hX)
  have HL := Lib.hid (hl.ext hX)
  have HR := Lib.hid (hr.ext hX)
  have HB : Hid (∀ z ∈ lineC m c t0 j, 0 ≤ z ∧ z ≤ 2 * m.sy - 1) := Lib.hid (lineC_mem (by omega) hB1 hB2)
  obtain ⟨R, hRr⟩ : ∃ R, R = tapeDec m.sy (lineC m c t0 j) := ⟨_, rfl⟩
  rw [← hRr]
  have HRES := Lib.hid hRr
  obtain ⟨H, hH⟩ : ∃ H, c.l.length = H := ⟨_, rfl⟩
  obtain ⟨Q, hQ⟩ : ∃ Q, c.r.length = Q := ⟨_, rfl⟩
  have hN : (cellsC c).length = H + Q := by simp [cellsC, hH, hQ]
  have HLI : Hid (lineC m c t0 j = lineT m.tp.toNat (frstC m.tp t0 j H) (cellsC c) (H + Q)) := Lib.hid (by unfold lineC; rw [hN, hH])
  have HBX : Hid (∀ z ∈ cellsC c, 0 ≤ z ∧ z ≤ 2 * m.sy - 1) := Lib.hid fun z hz => by
    rcases List.mem_append.1 hz with h1 | h1
    · exact hB1 z (List.mem_reverse.1 h1)
    · exact hB2 z h1
  have HXL : Hid (∀ i, i < H → ∀ q, H = i + q + 1 → (cellsC c).getD i 0 = c.l.getD q 0) := Lib.hid fun i hi q hq => by
    unfold cellsC
    rw [List.getD_eq_getElem?_getD, List.getElem?_append_left (by rw [List.length_reverse]; omega), List.getElem?_reverse (by omega), List.getD_eq_getElem?_getD]
    congr 2
    omega
  have HXR : Hid (∀ q, (cellsC c).getD (H + q) 0 = c.r.getD q 0) := Lib.hid fun q => by
    unfold cellsC
    rw [List.getD_eq_getElem?_getD, List.getElem?_append_right (by rw [List.length_reverse]; omega), List.getD_eq_getElem?_getD, List.length_reverse, hH, Nat.add_sub_cancel_left]
  have HLn := Lib.hid hH
  have HQn := Lib.hid hQ
  have hT2 : m.tp = 2 ∨ m.tp = 3 := by omega
  rw [hH] at hL
  rw [hQ] at hR
  have hwn : IntKind.i64.wrap (-(H : Int)) = -(H : Int) := IntWalk.i64_in _ (by omega)
  have c1W := (hX.trans hXW).cell c1
  rw [hH] at c1W
  have HX := Lib.hid hX
  generalize cellsC c = xs at *
  obtain ⟨F, hF⟩ : ∃ F, frstC m.tp t0 j H = F := ⟨_, rfl⟩
  have HF : Hid (∀ i : Nat, (t0 + ((i : Int) - H)) % m.tp = j ↔ i % m.tp.toNat = F) := Lib.hid fun i => by rw [first_iff hT2 hj0 hj1, hF]
  rw [hF] at HLI
  clear hRr hH hQ hN hF hl hr hb hB1 hB2 c1 c2
  rw [hW, hW0] at c1W
  go_enter Tryz.func54, Tryz.ntmps54
  go_wp2_with fail
  try rw [← hW0]
  try rw [← hW]
  try rw [hg]
  clear hW hW0 hW0s
  go_loopw [10, 11, 12, 13] (fun l h k o wr => ∃ (i : Nat) (z hd : Int), i ≤ H + Q ∧ o = .int .i64 z ∧ h = .int .i64 hd ∧ Hid (z = (i : Int) - H) ∧ k = .int .i64 ((cntM m.sy (lineT m.tp.toNat F xs i) : Nat) : Int) ∧ Hid (LastM m.sy (lineT m.tp.toNat F xs i) hd) ∧ Ext W0 wr ∧ OwnInts (g + 1) wr l (plainM m.sy (lineT m.tp.toNat F xs i))) (fun _ _ _ o _ => ((Q : Int) - intOf o).toNat)
  case atStart => exact ⟨0, -(H : Int), -1, Nat.zero_le _, rfl, rfl, Lib.hid (by omega), rfl, Lib.hid (LastM.nil _ _), hXW, HOWN.out⟩
  case round =>
    clear c1W hX bO hXW
    obtain ⟨i, z, hd, hiN, rfl, rfl, hz, rfl, hla, hE, ho⟩ := hrel
    have hlN := lineT_len m.tp.toNat F xs i
    have hcn := cntM_le m.sy (lineT m.tp.toNat F xs i)
    have d1 := hE.cell HC1.out
    have d2 := hE.cell HC2.out
    rw [HLn.out] at d1
    rw [HQn.out] at d2
    have m0 := (HMB.out.ext hE).cell 0
    have m1 := (HMB.out.ext hE).cell 1
    simp only [List.getElem?_toArray, List.getElem?_cons_zero, List.getElem?_cons_succ] at m0 m1
    have hzi := hz.out
    have HZI := Lib.hid hz.out
    have HO := Lib.hid ho
    obtain ⟨Av, cv, hv, hv1, hv2, _⟩ := (ownsRow_row ho).form
    subst hv
    by_cases hlt : z < (Q : Int)
    · have hiN1 : i < H + Q := by omega
      have hw1 : IntKind.i64.wrap (t0 + z) = t0 + z := IntWalk.i64_in _ (by omega)
      obtain ⟨r1, hr1⟩ : ∃ r1, (t0 + z).tmod m.tp = r1 := ⟨_, rfl⟩
      have hr1b : -4 < r1 ∧ r1 < 4 := by
        have a1 := Int.lt_tmod_of_pos (t0 + z) (b := m.tp) (by omega)
        have a2 := Int.tmod_lt_of_pos (t0 + z) (b := m.tp) (by omega)
        omega
      have hw2 : IntKind.i64.wrap (r1 + m.tp) = r1 + m.tp := IntWalk.i64_in _ (by omega)
      have hr2 : (r1 + m.tp).tmod m.tp = (t0 + z) % m.tp := by rw [← hr1]; exact floor_eqA hT2
      have hr3 : ((t0 + z) % m.tp = j) ↔ i % m.tp.toNat = F := by rw [hzi]; exact HF.out i
      obtain ⟨r2, hr2'⟩ : ∃ r2, (t0 + z) % m.tp = r2 := ⟨_, rfl⟩
      rw [hr2'] at hr2 hr3
      have htp0 : ¬ m.tp = 0 := by omega
      have hw3 : IntKind.i64.wrap (z + 1) = z + 1 := IntWalk.i64_in _ (by omega)
      have hzn : z + 1 = ((i + 1 : Nat) : Int) - H := by omega
      have HZN := Lib.hid hzn
      have HLA := Lib.hid hla.out
      have hiH : (z < 0 ∧ i < H) ∨ (¬ z < 0 ∧ H ≤ i) := by omega
      have hmeas : ((Q : Int) - (z + 1)).toNat < ((Q : Int) - z).toNat := by omega
      clear hr2' hzn hla hv1 hv2 hzi
      have zD := Ext.drew wr
      go_upto_region 7 with fail
      have e0 := zD.cell m0
      refine wp_region_ordT 19 (readsT [0, 1, 2, 3, 4, 5, 6, 7, 8, 9, 10, 11, 12, 13, 14, 15, 16, 17, 18] .done) (by kernel_rfl) (by kernel_rfl) (fun _ _ _ _ _ h => h) ?_
      simp only [readsT]
      iterate 19 (refine wpOrdT_read (v := ?_) (by rfl) (Or.inl ⟨by rfl, fun x hx => ?_⟩) ?_; rotate_left; (· have u0 := hx.cell e0; go_simp; try with_reducible rfl); try simp only [Act.put, List.setIfInBounds_toArray, List.set_cons_zero, List.set_cons_succ])
      refine wpOrdT_done ?_
      try simp only [List.drop_succ_cons, List.drop_zero]
      change wpList _ _ _ _ _ wr.drew
      have hED := hE.trans zD
      have f1 := zD.cell d1
      have f2 := zD.cell d2
      have k1 := zD.cell m1
      have HOD := Lib.hid (OwnInts.ext HO.out zD)
      have LL := HL.out.ext hED
      have LR := HR.out.ext hED
      clear e0 m0 m1 d1 d2 ho HO hr1 hE
      generalize wr.drew = Y at *
      by_cases hj : r2 = j
      · have hmod : i % m.tp.toNat = F := hr3.1 hj
        have HN1 : Hid (lineT m.tp.toNat F xs (i + 1) = lineT m.tp.toNat F xs i ++ [xs.getD i 0]) := Lib.hid (lineT_hit hmod)
        obtain ⟨zs, hzs⟩ : ∃ zs, lineT m.tp.toNat F xs i = zs := ⟨_, rfl⟩
        rw [hzs] at HN1 HOD HLA hcn hlN
        rw [hzs]
        have HPL : (plainM m.sy zs).length = zs.length := by simp [plainM]
        have HPn := Lib.hid HPL
        clear hr3 hmod hzs HPL
        subst hj
        obtain ⟨y, hy⟩ : ∃ y, xs.getD i 0 = y := ⟨_, rfl⟩
        have hyb : 0 ≤ y ∧ y ≤ 2 * m.sy - 1 := by
          rw [← hy, List.getD_eq_getElem?_getD]
          cases h : xs[i]? with
          | none => exact ⟨Int.le_refl _, by show (0 : Int) ≤ _; omega⟩
          | some x => exact HBX.out x (List.mem_of_getElem? h)
        rw [hy] at HN1
        have htm : y.tmod m.sy = y % m.sy := Int.tmod_eq_emod_of_nonneg hyb.1
        obtain ⟨yr, hyr⟩ : ∃ yr, y % m.sy = yr := ⟨_, rfl⟩
        rw [hyr] at htm
        have HYR := Lib.hid hyr
        have hsy0 : ¬ m.sy = 0 := by omega
        clear hyr
        rcases hiH with ⟨hneg, hiH⟩ | ⟨hneg, hiH⟩
        · have hzi := HZI.out
          obtain ⟨q, hq⟩ : ∃ q, H = i + q + 1 := ⟨H - i - 1, by omega⟩
          have hqv : c.l.getD q 0 = y := by rw [← HXL.out i hiH q hq, hy]
          have hqH : q < H := by omega
          have hqc : q < c.l.length := by rw [HLn.out]; exact hqH
          have hqz : -z - 1 = (q : Int) := by omega
          have hn1 : IntKind.i64.wrap (-z) = -z := IntWalk.i64_in _ (by omega)
          have hn2 : IntKind.i64.wrap (-z - 1) = (q : Int) := by rw [hqz]; exact IntWalk.i64_in _ (by omega)
          have hqi : (q : Int) < (H : Int) := by omega
          obtain ⟨bl, ol, rfl, hcl⟩ := LL.at hqc
          have ck := hcl q hqc
          rw [show c.l[q] = y by rw [← hqv, List.getD_eq_getElem?_getD, List.getElem?_eq_getElem hqc]; rfl] at ck
          clear hq hqv hqz hy hqc hcl hzi
          obtain ⟨n, hn⟩ : ∃ n, (plainM m.sy zs).length = n := ⟨_, rfl⟩
          have ho : Y.ownsRow (g + 1) 2 1 (.slice Av (plainM m.sy zs).length cv) (plainM m.sy zs).length (ivs (plainM m.sy zs)) := HOD.out
          have hnz : n = zs.length := by rw [← hn]; exact HPn.out
          obtain ⟨kc, hkc⟩ : ∃ kc, cntM m.sy zs = kc := ⟨_, rfl⟩
          rw [hn] at ho ⊢
          rw [hkc] at hcn ⊢
          have hn4 : n ≤ 400 := by omega
          have hk4 : kc ≤ 400 := by omega
          have HPX : Hid (ivs (plainM m.sy (zs ++ [y])) = ivs (plainM m.sy zs) ++ [.int .i64 yr]) := Lib.hid (by rw [plain_snoc, HYR.out]; simp [ivs])
          have HPL1 : Hid ((plainM m.sy (zs ++ [y])).length = n + 1) := Lib.hid (by rw [plain_snoc, List.length_append, hn]; rfl)
          have hwk : IntKind.i64.wrap ((kc : Int) + 1) = (kc : Int) + 1 := IntWalk.i64_in _ (by omega)
          have hsz : g + 1 ≤ Y.heap.size := by have := hED.size; rw [HWS.out] at this; exact this
          have hl1 := fun (b : Nat) (hb : (Value.slice Av n cv).ownBlock = some b) => (ho.lt b hb).1
          have hlow : ∀ b, (Value.slice Av n cv).ownBlock = some b → W0.heap.size ≤ b := fun b hb => by rw [HWS.out]; exact hl1 b hb
          by_cases hmk : m.sy ≤ y
          · have hmb : markB m.sy y = true := decide_eq_true hmk
            have HLM : Hid (LastM m.sy (zs ++ [y]) (n : Int)) := Lib.hid (by rw [hnz]; exact LastM.mark hmb)
            have HCN : Hid (((cntM m.sy (zs ++ [y]) : Nat) : Int) = (kc : Int) + 1) := Lib.hid (by rw [cntM_snoc, hkc, hmb]; simp)
            clear hmb hn hnz hkc HYR HPn hl1
            go_wp2_with (at_builtin; refine wpList_append_own _ rfl _ _ 46 rfl (g + 1) 2 i0 (.int .i64 0) 1 8 Tryz.underlying46 hi hz0 hz1 hz2 rfl (by decide) _ _ _ rfl (ho.alloc _) ⟨Y.heap.size, 0, none⟩ 1 1 [.int .i64 yr] rfl rfl (cell_one_new _ _ _) ?c2 ?c3 ?c4 ?c5 ?_)
            case c2 => first | rfl | (intro u hu; simp at hu; subst hu; rfl)
            case c3 => first | omega | (unfold maxLen; omega)
            case c4 => omega
            case c5 => first | omega | (simp; omega)
            intro v' w3 hown' hgrow _
            have hX3 : Ext W0 w3 := hED.grown (grownBy_trans (World.grownBy_alloc _ _ _) hgrow) hlow
            have R3 : OwnInts (g + 1) w3 v' (plainM m.sy (zs ++ [y])) := by unfold OwnInts; rw [HPX.out, HPL1.out]; exact hown'
            clear hown' hgrow ho
            go_wp2_with fail
            go_roundw
            case rel => exact ⟨i + 1, z + 1, (n : Int), by omega, rfl, rfl, HZN.out, by rw [HN1.out, HCN.out], by rw [HN1.out]; exact HLM.out, hX3, by rw [HN1.out]; exact R3⟩
            case measure => simp [intOf]; omega
          · have hmb : markB m.sy y = false := decide_eq_false hmk
            have HLM : Hid (LastM m.sy (zs ++ [y]) hd) := Lib.hid (LastM.skip HLA.out hmb)
            have HCN : Hid (((cntM m.sy (zs ++ [y]) : Nat) : Int) = (kc : Int)) := Lib.hid (by rw [cntM_snoc, hkc, hmb]; simp)
            clear hmb hn hnz hkc HYR HPn hl1
            go_wp2_with (at_builtin; refine wpList_append_own _ rfl _ _ 46 rfl (g + 1) 2 i0 (.int .i64 0) 1 8 Tryz.underlying46 hi hz0 hz1 hz2 rfl (by decide) _ _ _ rfl (ho.alloc _) ⟨Y.heap.size, 0, none⟩ 1 1 [.int .i64 yr] rfl rfl (cell_one_new _ _ _) ?c2 ?c3 ?c4 ?c5 ?_)
            case c2 => first | rfl | (intro u hu; simp at hu; subst hu; rfl)
            case c3 => first | omega | (unfold maxLen; omega)
            case c4 => omega
            case c5 => first | omega | (simp; omega)
            intro v' w3 hown' hgrow _
            have hX3 : Ext W0 w3 := hED.grown (grownBy_trans (World.grownBy_alloc _ _ _) hgrow) hlow
            have R3 : OwnInts (g + 1) w3 v' (plainM m.sy (zs ++ [y])) := by unfold OwnInts; rw [HPX.out, HPL1.out]; exact hown'
            clear hown' hgrow ho
            go_wp2_with fail
            go_roundw
            case rel => exact ⟨i + 1, z + 1, hd, by omega, rfl, rfl, HZN.out, by rw [HN1.out, HCN.out], by rw [HN1.out]; exact HLM.out, hX3, by rw [HN1.out]; exact R3⟩
            case measure => simp [intOf]; omega
        · have hzi := HZI.out
          obtain ⟨q, hq⟩ : ∃ q : Nat, z = (q : Int) := ⟨z.toNat, by omega⟩
          have hqi0 : i = H + q := by omega
          have hqv : c.r.getD q 0 = y := by rw [← HXR.out q, ← hqi0, hy]
          have hqH : q < Q := by omega
          have hqc : q < c.r.length := by rw [HQn.out]; exact hqH
          have hqi : (q : Int) < (Q : Int) := by omega
          have hzt : z.toNat = q := by omega
          have hz00 : 0 ≤ z := by omega
          have hzq : z < (Q : Int) := by omega
          obtain ⟨bl, ol, rfl, hcl⟩ := LR.at hqc
          have ck := hcl q hqc
          rw [show c.r[q] = y by rw [← hqv, List.getD_eq_getElem?_getD, List.getElem?_eq_getElem hqc]; rfl] at ck
          clear hq hqi0 hqv hy hqc hcl hzi hqi
          obtain ⟨n, hn⟩ : ∃ n, (plainM m.sy zs).length = n := ⟨_, rfl⟩
          have ho : Y.ownsRow (g + 1) 2 1 (.slice Av (plainM m.sy zs).length cv) (plainM m.sy zs).length (ivs (plainM m.sy zs)) := HOD.out
          have hnz : n = zs.length := by rw [← hn]; exact HPn.out
          obtain ⟨kc, hkc⟩ : ∃ kc, cntM m.sy zs = kc := ⟨_, rfl⟩
          rw [hn] at ho ⊢
          rw [hkc] at hcn ⊢
          have hn4 : n ≤ 400 := by omega
          have hk4 : kc ≤ 400 := by omega
          have HPX : Hid (ivs (plainM m.sy (zs ++ [y])) = ivs (plainM m.sy zs) ++ [.int .i64 yr]) := Lib.hid (by rw [plain_snoc, HYR.out]; simp [ivs])
          have HPL1 : Hid ((plainM m.sy (zs ++ [y])).length = n + 1) := Lib.hid (by rw [plain_snoc, List.length_append, hn]; rfl)
          have hwk : IntKind.i64.wrap ((kc : Int) + 1) = (kc : Int) + 1 := IntWalk.i64_in _ (by omega)
          have hsz : g + 1 ≤ Y.heap.size := by have := hED.size; rw [HWS.out] at this; exact this
          have hl1 := fun (b : Nat) (hb : (Value.slice Av n cv).ownBlock = some b) => (ho.lt b hb).1
          have hlow : ∀ b, (Value.slice Av n cv).ownBlock = some b → W0.heap.size ≤ b := fun b hb => by rw [HWS.out]; exact hl1 b hb
          by_cases hmk : m.sy ≤ y
          · have hmb : markB m.sy y = true := decide_eq_true hmk
            have HLM : Hid (LastM m.sy (zs ++ [y]) (n : Int)) := Lib.hid (by rw [hnz]; exact LastM.mark hmb)
            have HCN : Hid (((cntM m.sy (zs ++ [y]) : Nat) : Int) = (kc : Int) + 1) := Lib.hid (by rw [cntM_snoc, hkc, hmb]; simp)
            clear hmb hn hnz hkc HYR HPn hl1
            go_wp2_with (at_builtin; refine wpList_append_own _ rfl _ _ 46 rfl (g + 1) 2 i0 (.int .i64 0) 1 8 Tryz.underlying46 hi hz0 hz1 hz2 rfl (by decide) _ _ _ rfl (ho.alloc _) ⟨Y.heap.size, 0, none⟩ 1 1 [.int .i64 yr] rfl rfl (cell_one_new _ _ _) ?c2 ?c3 ?c4 ?c5 ?_)
            case c2 => first | rfl | (intro u hu; simp at hu; subst hu; rfl)
            case c3 => first | omega | (unfold maxLen; omega)
            case c4 => omega
            case c5 => first | omega | (simp; omega)
            intro v' w3 hown' hgrow _
            have hX3 : Ext W0 w3 := hED.grown (grownBy_trans (World.grownBy_alloc _ _ _) hgrow) hlow
            have R3 : OwnInts (g + 1) w3 v' (plainM m.sy (zs ++ [y])) := by unfold OwnInts; rw [HPX.out, HPL1.out]; exact hown'
            clear hown' hgrow ho
            go_wp2_with fail
            go_roundw
            case rel => exact ⟨i + 1, z + 1, (n : Int), by omega, rfl, rfl, HZN.out, by rw [HN1.out, HCN.out], by rw [HN1.out]; exact HLM.out, hX3, by rw [HN1.out]; exact R3⟩
            case measure => simp [intOf]; omega
          · have hmb : markB m.sy y = false := decide_eq_false hmk
            have HLM : Hid (LastM m.sy (zs ++ [y]) hd) := Lib.hid (LastM.skip HLA.out hmb)
            have HCN : Hid (((cntM m.sy (zs ++ [y]) : Nat) : Int) = (kc : Int)) := Lib.hid (by rw [cntM_snoc, hkc, hmb]; simp)
            clear hmb hn hnz hkc HYR HPn hl1
            go_wp2_with (at_builtin; refine wpList_append_own _ rfl _ _ 46 rfl (g + 1) 2 i0 (.int .i64 0) 1 8 Tryz.underlying46 hi hz0 hz1 hz2 rfl (by decide) _ _ _ rfl (ho.alloc _) ⟨Y.heap.size, 0, none⟩ 1 1 [.int .i64 yr] rfl rfl (cell_one_new _ _ _) ?c2 ?c3 ?c4 ?c5 ?_)
            case c2 => first | rfl | (intro u hu; simp at hu; subst hu; rfl)
            case c3 => first | omega | (unfold maxLen; omega)
            case c4 => omega
            case c5 => first | omega | (simp; omega)
            intro v' w3 hown' hgrow _
            have hX3 : Ext W0 w3 := hED.grown (grownBy_trans (World.grownBy_alloc _ _ _) hgrow) hlow
            have R3 : OwnInts (g + 1) w3 v' (plainM m.sy (zs ++ [y])) := by unfold OwnInts; rw [HPX.out, HPL1.out]; exact hown'
            clear hown' hgrow ho
            go_wp2_with fail
            go_roundw
            case rel => exact ⟨i + 1, z + 1, hd, by omega, rfl, rfl, HZN.out, by rw [HN1.out, HCN.out], by rw [HN1.out]; exact HLM.out, hX3, by rw [HN1.out]; exact R3⟩
            case measure => simp [intOf]; omega
      · have hmod : i % m.tp.toNat ≠ F := fun h => hj (hr3.2 h)
        have HN1 : Hid (lineT m.tp.toNat F xs (i + 1) = lineT m.tp.toNat F xs i) := Lib.hid (lineT_skip hmod)
        have hrj : (r2 != j) = true := by simp [hj]
        clear hr3 hmod
        go_wp2_with fail
        go_roundw
        case rel => exact ⟨i + 1, z + 1, hd, by omega, rfl, rfl, HZN.out, by rw [HN1.out], by rw [HN1.out]; exact HLA.out, hED, by rw [HN1.out]; exact HOD.out⟩
        case measure => simp [intOf]; omega
    · have hge : ¬ z < (Q : Int) := hlt
      have hiE : i = H + Q := by omega
      have hlB : g ≤ wr.heap.size := by have := hE.size; rw [HWS.out] at this; omega
      have bO1 := HBO.out.ext hE
      have hXw := HX.out.trans hE
      have hwg : w.heap.size ≤ g := by omega
      rw [hiE, ← HLI.out] at hcn hlN
      have HLA : Hid (LastM m.sy (lineC m c t0 j) hd) := Lib.hid (by rw [HLI.out, ← hiE]; exact hla.out)
      have hoC : OwnInts (g + 1) wr (.slice Av (plainM m.sy (lineC m c t0 j)).length cv) (plainM m.sy (lineC m c t0 j)) := by rw [HLI.out, ← hiE]; exact HO.out
      have hcv : (plainM m.sy (lineC m c t0 j)).length ≤ cv := by
        obtain ⟨A', c', e, h1, _⟩ := hoC.ints.form
        injection e with e1 e2 e3
        omega
      rw [hiE, ← HLI.out]
      have HRN := Lib.hid HRES.out
      generalize lineC m c t0 j = zs at *
      obtain ⟨n, hn⟩ : ∃ n, (plainM m.sy zs).length = n := ⟨_, rfl⟩
      have hnz : zs.length = n := by rw [← hn]; simp [plainM]
      rw [hn] at hoC hcv ⊢
      have hn4 : n ≤ 400 := by omega
      have HNZ := Lib.hid hnz
      have HNP := Lib.hid hn
      by_cases hc : cntM m.sy zs = 1
      · obtain ⟨k, rfl, hk, hf, ha⟩ := dec_one HLA.out hc
        have HT := Lib.hid (tapeDec_one hf ha)
        have hkn : k < n := by omega
        have HTK := Lib.hid (plain_take HB.out hf)
        have HDK := Lib.hid (plain_drop HB.out hf ha)
        have HRT : Hid (R = some ⟨trim (zs.take k).reverse, trim ((zs.getD k 0 - m.sy) :: zs.drop (k + 1))⟩) := Lib.hid (by rw [HRN.out]; exact HT.out)
        rw [hc]
        obtain ⟨gl, rfl, hgl1, hgl2⟩ := own_at (show wr.ownsRow (g + 1) 2 1 (.slice Av n cv) n (ivs (plainM m.sy zs)) by rw [← hn]; exact (by rw [← hn] at hoC; exact hoC)) (by omega)
        have i1' : Ints wr (.slice (some ⟨gl, 0, none⟩) k cv) (zs.take k) := by
          have h1 := hoC.ints
          rw [← hn] at h1
          have h2 := h1.take k (by omega)
          rwa [HTK.out] at h2
        have i2' := ints_dropA hoC.ints hn.symm k (by omega)
        rw [HDK.out, Nat.zero_add] at i2'
        have hlt0 : (zs.take k).length ≤ 1048576 := by rw [List.length_take]; omega
        have hlt1 : (zs.take k).reverse.length ≤ 1048576 := by rw [List.length_reverse]; exact hlt0
        have hlt2 : ((zs.getD k 0 - m.sy) :: zs.drop (k + 1)).length ≤ 1048576 := by rw [List.length_cons, List.length_drop]; omega
        have zE := Ext.drew wr
        have RV := l03Reverse_c (.slice (some ⟨gl, 0, none⟩) k cv) (zs.take k) wr.drew (i1'.ext zE) hlt0
        generalize hl1 : (zs.take k).reverse = L1 at *
        generalize hl2 : (zs.getD k 0 - m.sy) :: zs.drop (k + 1) = L2 at *
        have hkc : k ≤ cv := by omega
        have hkci : (k : Int) ≤ (cv : Int) := by omega
        have hkn2 : k ≤ n := by omega
        have hkni : (k : Int) ≤ (n : Int) := by omega
        have hnck : ¬ cv = k := by omega
        clear hn hnz hc hf ha HT hoC HO hlN hcn hl1 hl2 hiE hzi hv1 hv2 ho hla
        go_upto_region 18 with fail
        refine wp_region_ordT 10 (readsT [0, 1, 2, 5, 6, 7] (.stir 3 (.stir 4 (.stir 8 (readsT [9] .done))))) (by kernel_rfl) (by kernel_rfl) (fun _ _ _ _ _ h => h) ?_
        simp only [readsT]
        iterate 6 (refine wpOrdT_read (v := ?_) (by rfl) (Or.inl ⟨by rfl, fun x hx => ?_⟩) ?_; rotate_left; (· go_simp; try with_reducible rfl); try simp only [Act.put, List.setIfInBounds_toArray, List.set_cons_zero, List.set_cons_succ])
        refine wpOrdT_stir (by rfl) (fun K hK => ?_)
        go_simp
        go_at_call 91
        refine RV.mono ?_
        rintro e w5 ⟨u5, rfl, ho5, hx5⟩
        refine hK _ _ hx5 ?_
        clear hK K RV
        try simp only [Act.put, List.setIfInBounds_toArray, List.set_cons_zero, List.set_cons_succ]
        have TR := l05Trim_c u5 L1 w5 ho5.ints hlt1
        refine wpOrdT_stir (by rfl) (fun K hK => ?_)
        go_simp
        go_at_call 85
        refine TR.mono ?_
        rintro e w6 ⟨u6, rfl, ho6, hx6⟩
        refine hK _ _ hx6 ?_
        clear hK K TR
        try simp only [Act.put, List.setIfInBounds_toArray, List.set_cons_zero, List.set_cons_succ]
        have TR := l05Trim_c _ L2 w6 (i2'.ext (zE.trans (hx5.trans hx6))) hlt2
        refine wpOrdT_stir (by rfl) (fun K hK => ?_)
        go_simp
        go_at_call 85
        refine TR.mono ?_
        rintro e w8 ⟨u8, rfl, ho8, hx8⟩
        refine hK _ _ hx8 ?_
        clear hK K TR
        try simp only [Act.put, List.setIfInBounds_toArray, List.set_cons_zero, List.set_cons_succ]
        obtain ⟨A6, c6, rfl, _, _⟩ := ho6.ints.form
        obtain ⟨A8, c8, rfl, _, _⟩ := ho8.ints.form
        iterate 1 (refine wpOrdT_read (v := ?_) (by rfl) (Or.inl ⟨by rfl, fun x hx => ?_⟩) ?_; rotate_left; (· go_simp; try with_reducible rfl); try simp only [Act.put, List.setIfInBounds_toArray, List.set_cons_zero, List.set_cons_succ])
        refine wpOrdT_done ?_
        try simp only [List.drop_succ_cons, List.drop_zero]
        have hE8 : Ext wr w8 := zE.trans (hx5.trans (hx6.trans hx8))
        have hX8 := hXw.trans hE8
        have b8 := bO1.ext hE8
        have o6 : OwnInts w.heap.size w8 (.slice A6 (trim L1).length c6) (trim L1) := OwnInts.ext (ownsRow_base ho6 (Nat.le_trans hXw.size (zE.trans hx5).size)) hx8
        have o8 : OwnInts w.heap.size w8 (.slice A8 (trim L2).length c8) (trim L2) := ownsRow_base ho8 (Nat.le_trans hXw.size (zE.trans (hx5.trans hx6)).size)
        have ob := b8.cell
        have of_ := b8.frozen
        have HO6 := Lib.hid o6
        have HO8 := Lib.hid o8
        clear o6 o8 ho6 ho8 ho5 hx5 hx6 hx8 i1' i2'
        go_wp2
        exact bodyPost_ret (v := .tuple #[.agg #[.slice A6 (trim L1).length c6, .slice A8 (trim L2).length c8], .bool true]) (by simp [results, Tryz.results54, go_sem, ob]) rfl ⟨.inr ⟨_, _, _, HRT.out, rfl, own_setM (b8.set_ 0 _) (by decide) (own_setM b8 (by decide) HO6.out 0 _) 1 _, own_setM (b8.set_ 0 _) (by decide) (own_setM b8 (by decide) HO8.out 0 _) 1 _⟩, (hX8.setCell (p := ⟨g, 0, none⟩) hwg _).setCell (p := ⟨g, 1, none⟩) hwg _⟩
      · have HRT : Hid (R = none) := Lib.hid (by rw [HRN.out]; exact dec_no hc)
        obtain ⟨kc, hkc⟩ : ∃ kc, cntM m.sy zs = kc := ⟨_, rfl⟩
        rw [hkc] at hc hcn ⊢
        have hb1 : ((kc : Int) != 1) = true := by simp; omega
        have ob := bO1.cell
        have of_ := bO1.frozen
        clear hn hnz hc hoC HO hlN hcn hiE hzi hkc ho hla
        go_wp2
        exact bodyPost_ret (v := .tuple #[.agg #[.slice none 0 0, .slice none 0 0], .bool false]) (by simp [results, Tryz.results54, go_sem, ob]) rfl ⟨.inl ⟨HRT.out, rfl⟩, (hXw.setCell (p := ⟨g, 0, none⟩) hwg _).setCell (p := ⟨g, 1, none⟩) hwg _⟩
end Go.Proofs.YtfghojbbofobeaaGreat
end
