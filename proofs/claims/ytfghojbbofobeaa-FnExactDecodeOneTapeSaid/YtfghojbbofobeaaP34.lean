/- Words for the walk of the law on the decoding of a configuration of the machine with one tape for several: bounds, and results in a block that has been made.
Contracts of the laws' comparison of machines with several tapes.
The walk of the law on the decoding of a configuration of the machine with one tape for several. -/
import Derived.Test.YtfghojbbofobeaaP26
import Derived.Test.YtfghojbbofobeaaP27
import Derived.Test.YtfghojbbofobeaaP31
import Derived.Test.YtfghojbbofobeaaP32
import Derived.Test.YtfghojbbofobeaaP08
import Derived.Test.YtfghojbbofobeaaP33
import Derived.Test.YtfghojbbofobeaaP29
import Derived.Test.YtfghojbbofobeaaP02
import Derived.Deep.RegionHeld3
import Derived.Deep.DeepCutAuto
section
set_option linter.unusedSimpArgs false
set_option linter.unusedVariables false
namespace Go.Proofs.Ytfghojbbofobeaa
open Go Go.RowKit Go.Proofs
set_option maxHeartbeats 400000
theorem totT_append (a b : List TapeD) : totT (a ++ b) = totT a + totT b := by
  unfold totT
  rw [List.map_append, List.sum_append]
theorem lineC_len (m : MultiD) (c : ConfD) (t0 j : Int) : (lineC m c t0 j).length ≤ c.l.length + c.r.length := by
  unfold lineC lineT ixT
  rw [List.length_map]
  refine Nat.le_trans (List.length_filter_le _ _) ?_
  simp [cellsC]
theorem tapeDec_len {sy : Int} {zs : List Int} {t : TapeD} (h : tapeDec sy zs = some t) : t.l.length + t.r.length ≤ zs.length + 1 := by
  unfold tapeDec at h
  cases hf : zs.findIdx? (markB sy) with
  | none => rw [hf] at h; cases h
  | some k =>
    rw [hf] at h
    simp only at h
    have hk : k < zs.length := by
      have := List.findIdx?_eq_some_iff_getElem.1 hf
      exact this.1
    split at h
    · cases h
    · injection h with h
      rw [← h]
      have a := trim_len (zs.take k).reverse
      have b := trim_len ((zs.getD k 0 - sy) :: zs.drop (k + 1))
      rw [List.length_reverse, List.length_take] at a
      rw [List.length_cons, List.length_drop] at b
      simp only
      omega
theorem decTapes_tot {m : MultiD} {c : ConfD} {t0 : Int} : ∀ {j : Nat} {l : List TapeD}, decTapes m c t0 j = some l → totT l ≤ j * (c.l.length + c.r.length + 1)
  | 0, l, h => by
    simp [decTapes] at h
    simp [h, totT]
  | j + 1, l, h => by
    unfold decTapes at h
    cases h1 : decTapes m c t0 j with
    | none => rw [h1] at h; cases h
    | some l1 =>
      cases h2 : tapeDec m.sy (lineC m c t0 (j : Int)) with
      | none => rw [h1, h2] at h; cases h
      | some t =>
        rw [h1, h2] at h
        injection h with h
        have a := decTapes_tot h1
        have b := tapeDec_len h2
        have d := lineC_len m c t0 (j : Int)
        rw [← h, totT_append, Nat.add_mul]
        have e : totT [t] = t.l.length + t.r.length := by simp [totT]
        omega
theorem decAllM_tot (m : MultiD) (c : ConfD) : totT (decAllM m c).1.tapes ≤ 3 * (c.l.length + c.r.length + 1) := by
  have h0 : ∀ (a k : Int), totT ((⟨a, []⟩, k) : MConfD × Int).1.tapes ≤ 3 * (c.l.length + c.r.length + 1) := fun a k => by simp [totT]
  unfold decAllM
  cases hm : multiOk m with
  | false => exact h0 _ _
  | true =>
    obtain ⟨⟨tp1, tp2⟩, _, _⟩ := multi_all hm
    simp only [if_true]
    split
    · exact h0 _ _
    · split
      · unfold decOne
        split
        · split
          · rename_i ts hts
            have := decTapes_tot hts
            have h3 : m.tp.toNat ≤ 3 := by omega
            exact Nat.le_trans this (Nat.mul_le_mul_right _ h3)
          · exact h0 _ _
        · exact h0 _ _
      · exact h0 _ _
/-- A configuration with several tapes in a block that has been made, and its code. -/
def CutMC (w0 : World) (R : MConfD × Int) (s6 s7 : Value) (w : World) : Prop := ∃ g v, s6 = .pointer (some ⟨g, 0, none⟩) ∧ s7 = .int .i64 R.2 ∧ Blk w g 32 #[.int .i64 R.1.q, v] ∧ Ext w0 w ∧ w0.heap.size ≤ g ∧ Tapes w v R.1.tapes
abbrev zeroM : Obj := .cells #[.int .i64 0, .slice none 0 0] 32
theorem CutMC.late {w0 wC : World} {R : MConfD × Int} {v : Value} {base : Nat} (hx : Ext w0 wC) (h1 : OwnT base wC v R.1.tapes) :
    CutMC w0 R (.pointer (some ⟨wC.heap.size, 0, none⟩)) (.int .i64 R.2) (wC.alloc (.cells #[.int .i64 R.1.q, v] 32)) :=
  ⟨_, v, rfl, rfl, Blk.new _ _ _ _ rfl, hx.trans (Ext.alloc _ _), hx.size, (h1.ext (Ext.alloc _ _)).tapes⟩
theorem CutMC.early {w0 wC : World} {R : MConfD × Int} {v : Value} {base g : Nat} (hx : Ext w0 wC) (h1 : OwnT base wC v R.1.tapes) (hb : Blk wC g 32 #[.int .i64 0, .slice none 0 0]) (hg : w0.heap.size ≤ g) :
    CutMC w0 R (.pointer (some ⟨g, 0, none⟩)) (.int .i64 R.2) ((wC.setCell ⟨g, 0, none⟩ (.int .i64 R.1.q)).setCell ⟨g, 1, none⟩ v) :=
  ⟨g, v, rfl, rfl, (hb.set_ 0 _).set_ 1 _, (hx.setCell hg _).setCell hg _, hg, ((h1.far hb (by decide) (by decide) 0 _).far (hb.set_ 0 _) (by decide) (by decide) 1 _).tapes⟩
theorem Ext.set2 {w0 wC : World} {g : Nat} (hx : Ext w0 wC) (hg : w0.heap.size ≤ g) (x y : Value) : Ext w0 ((wC.setCell ⟨g, 0, none⟩ x).setCell ⟨g, 1, none⟩ y) :=
  (hx.setCell hg _).setCell hg _
theorem CpM.ownT {w wr : World} {ts : List TapeD} {v : Value} {cl : List Value} (h : CpM w ts ts.length v cl wr) : OwnT w.heap.size wr v ts :=
  ⟨cl, h.own, h.len, fun i hi => h.side i hi hi⟩
theorem DecodeOneTapeM_c (rvm u : Value) (m : MultiD) (c : ConfD) (base : Nat) (w : World) (hr : MRules w rvm m.rules) (hu : MadeConf base w u c) :
    Calls Try.prog 9 #[.agg #[.int .i64 m.tp, .int .i64 m.sy, .int .i64 m.st, rvm], u] w (DecRes w (decAllM m c)) := by
  obtain ⟨lv, rv, rfl, h1, h2, _⟩ := hu
  exact DecodeOneTape_c _ m c lv rv w ⟨_, rfl, hr⟩ h1.ints h2.ints h1.flat h2.flat
theorem DecodeOneTapeT_c (rvm u : Value) (m : MultiD) (c : ConfD) (base : Nat) (w : World) (hr : MRules w rvm m.rules) (hu : MadeConf base w u c) :
    Calls Try.prog 9 #[.agg #[.int .i64 m.tp, .int .i64 m.sy, .int .i64 m.st, rvm], u] w (DecResS w (decAllM m c)) := by
  refine (DecodeOneTapeM_c rvm u m c base w hr hu).mono ?_
  rintro e w' ⟨v, cl, h1, h2, h3⟩
  exact ⟨v, h1, h2.ownT, h3⟩
theorem specDecodeOneTapeM_c (rvm u : Value) (m : MultiD) (c : ConfD) (base : Nat) (w : World) (hr : MRules w rvm m.rules) (hu : MadeConf base w u c) :
    Calls Try.prog 6 #[.agg #[.int .i64 m.tp, .int .i64 m.sy, .int .i64 m.st, rvm], u] w (DecResS w (decAllM m c)) := by
  obtain ⟨lv, rv, rfl, h1, h2, _⟩ := hu
  exact specDecodeOneTape_c _ m c lv rv w ⟨_, rfl, hr⟩ h1.ints h2.ints
theorem TopF.keepB {T base : Nat} {w w' : World} (h : TopF T w w') (hT : T ≤ base) (hs : w.heap.size ≤ w'.heap.size) : KeepB base w w' := ⟨hs, fun k h1 h2 => h k (Nat.le_trans hT h1) h2⟩
theorem TwoOnly.keepB {base : Nat} {w w' : World} {u v : Value} (h : TwoOnly w w' u v) (h1 : ∀ g, u.ownBlock = some g → g < base) (h2 : ∀ g, v.ownBlock = some g → g < base) : KeepB base w w' :=
  ⟨h.1, fun k hk hl => h.2 k hl (fun e => by have := h1 k e; omega) (fun e => by have := h2 k e; omega)⟩
end Go.Proofs.Ytfghojbbofobeaa
end
section
set_option linter.unusedVariables false
set_option linter.unusedSimpArgs false
namespace Go.Proofs.Ytfghojbbofobeaa
open Go Go.RowKit Go.Proofs
set_option maxHeartbeats 400000
/-- A machine with several tapes is compared with itself. -/
theorem eqMultiRule_c (u v : Value) (r : MRuleD) (w : World) (ha : MRul w u r) (hb : MRul w v r) :
    Calls Try.prog 60 #[u, v] w fun e w' => e = .returned (.bool true) ∧ Ext w w' := by
  obtain ⟨vr, vw, vm, rfl, i1, i2, i3⟩ := ha
  obtain ⟨ur, uw, um, rfl, j1, j2, j3⟩ := hb
  obtain ⟨g, hg⟩ : ∃ g, w.heap.size = g := ⟨_, rfl⟩
  obtain ⟨W, hW⟩ : ∃ W, W = (w.alloc (.cells #[.int .i64 r.st, vr, vw, vm, .int .i64 r.nx] 82)).alloc (.cells #[.int .i64 r.st, ur, uw, um, .int .i64 r.nx] 82) := ⟨_, rfl⟩
  have hX : Ext w W := by rw [hW]; exact (Ext.alloc _ _).trans (Ext.alloc _ _)
  have bA : Blk W g 82 #[.int .i64 r.st, vr, vw, vm, .int .i64 r.nx] := by rw [hW]; exact (Blk.new _ _ _ _ hg).alloc _
  have bB : Blk W (g + 1) 82 #[.int .i64 r.st, ur, uw, um, .int .i64 r.nx] := by rw [hW]; exact Blk.new _ _ _ _ (by simp [hg])
  have Q1 := fun w1 (h : Ext W w1) => eqInt64S_c w1 _ _ _ _ ((i1.ext hX).ext h) ((j1.ext hX).ext h)
  have Q2 := fun w1 (h : Ext W w1) => eqInt64S_c w1 _ _ _ _ ((i2.ext hX).ext h) ((j2.ext hX).ext h)
  have Q3 := fun w1 (h : Ext W w1) => eqInt64S_c w1 _ _ _ _ ((i3.ext hX).ext h) ((j3.ext hX).ext h)
  have L1 : lEq r.rd r.rd = true := lEq_true rfl
  have L2 : lEq r.wr r.wr = true := lEq_true rfl
  have L3 : lEq r.mv r.mv = true := lEq_true rfl
  rw [L1] at Q1
  rw [L2] at Q2
  rw [L3] at Q3
  have hst : (r.st != r.st) = false := by simp
  have hnx : (r.nx != r.nx) = false := by simp
  have CA := fun w1 (h : Ext W w1) => (bA.ext h).cell
  have CB := fun w1 (h : Ext W w1) => (bB.ext h).cell
  have a0 := CA W (Ext.refl _) 0
  have a1 := CA W (Ext.refl _) 1
  have b0 := CB W (Ext.refl _) 0
  have b1 := CB W (Ext.refl _) 1
  simp only [List.getElem?_toArray, List.getElem?_cons_zero, List.getElem?_cons_succ] at a0 a1 b0 b1
  have HX := Lib.hid hX
  clear hX bA bB i1 i2 i3 j1 j2 j3 L1 L2 L3
  go_enter Try.func60, Try.ntmps60
  go_wp2_with fail
  try rw [← hW]
  try rw [hg]
  clear hW
  refine (Q1 W (Ext.refl _)).mono ?_
  rintro e w1 ⟨rfl, hx1⟩
  have a2 := CA w1 hx1 2
  have b2 := CB w1 hx1 2
  simp only [List.getElem?_toArray, List.getElem?_cons_zero, List.getElem?_cons_succ] at a2 b2
  clear a0 a1 b0 b1
  go_wp2_with fail
  refine (Q2 w1 hx1).mono ?_
  rintro e w2 ⟨rfl, hx2⟩
  have hx12 := hx1.trans hx2
  have a3 := CA w2 hx12 3
  have b3 := CB w2 hx12 3
  simp only [List.getElem?_toArray, List.getElem?_cons_zero, List.getElem?_cons_succ] at a3 b3
  clear a2 b2
  go_wp2_with fail
  refine (Q3 w2 hx12).mono ?_
  rintro e w3 ⟨rfl, hx3⟩
  have hx13 := hx12.trans hx3
  have a4 := CA w3 hx13 4
  have b4 := CB w3 hx13 4
  simp only [List.getElem?_toArray, List.getElem?_cons_zero, List.getElem?_cons_succ] at a4 b4
  clear a3 b3
  go_wp2
  go_ret
  exact ⟨rfl, HX.out.trans hx13⟩
theorem eqMultiRuleS_c (u v : Value) (rs : List MRuleD) (w : World) (ha : MRules w u rs) (hb : MRules w v rs) :
    Calls Try.prog 29 #[u, v] w fun e w' => e = .returned (.bool true) ∧ Ext w w' := by
  obtain ⟨A, ca, rfl, h1, h1'⟩ := ha.form
  obtain ⟨B, cb, rfl, h2, h2'⟩ := hb.form
  have hl1 : ((rs.length : Int) != (rs.length : Int)) = false := by simp
  go_enter Try.func29, Try.ntmps29
  go_wp2
  go_loopw [5] (fun i wr => ∃ k : Nat, k ≤ rs.length ∧ i = .int .i64 k ∧ Ext w wr) (fun i _ => rs.length - (intOf i).toNat)
  case atStart => exact ⟨0, Nat.zero_le _, rfl, Ext.refl _⟩
  case round =>
    obtain ⟨k, hk, rfl, hx⟩ := hrel
    by_cases hlt : k < rs.length
    · obtain ⟨b, off, vr, vw, vm, rfl, c0, c1, c2, c3, c4, i1, i2, i3⟩ := ha.at hlt
      obtain ⟨b', off', ur, uw, um, rfl, d0, d1, d2, d3, d4, j1, j2, j3⟩ := hb.at hlt
      have c0 := cellR (hx.cell c0)
      have c1 := cellR (hx.cell c1)
      have c2 := cellR (hx.cell c2)
      have c3 := cellR (hx.cell c3)
      have c4 := cellR (hx.cell c4)
      have d0 := cellR (hx.cell d0)
      have d1 := cellR (hx.cell d1)
      have d2 := cellR (hx.cell d2)
      have d3 := cellR (hx.cell d3)
      have d4 := cellR (hx.cell d4)
      have EQ := fun d os => eqMultiRule_c (.agg #[.int .i64 rs[k].st, vr, vw, vm, .int .i64 rs[k].nx]) (.agg #[.int .i64 rs[k].st, ur, uw, um, .int .i64 rs[k].nx]) rs[k] (Sort.grow (redrawn wr d) os) ⟨vr, vw, vm, rfl, (i1.ext hx).ext (below_regrown _ _ _), (i2.ext hx).ext (below_regrown _ _ _), (i3.ext hx).ext (below_regrown _ _ _)⟩ ⟨ur, uw, um, rfl, (j1.ext hx).ext (below_regrown _ _ _), (j2.ext hx).ext (below_regrown _ _ _), (j3.ext hx).ext (below_regrown _ _ _)⟩
      clear ha hb i1 i2 i3 j1 j2 j3
      generalize rs[k] = y at *
      go_wp2
      refine wp_region_ext (by kernel_rfl) (by kernel_rfl) ?_
      repeat (go_big_quiet_step ((go_at_call 60; with_reducible exact Calls.extR (EQ _ _))))
      refine wpQuiet_nil ?_
      intro w2 hx2
      go_wp2
      go_roundw
      case rel => exact ⟨k + 1, by omega, by go_num, hx.trans hx2⟩
      case measure => simp [intOf]; omega
    · go_wp2
      go_ret
      exact ⟨rfl, hx⟩
theorem eqMulti_c (u v : Value) (m : MultiD) (w : World) (ha : Mult w u m) (hb : Mult w v m) :
    Calls Try.prog 11 #[u, v] w fun e w' => e = .returned (.bool true) ∧ Ext w w' := by
  obtain ⟨ra, rfl, ha⟩ := ha
  obtain ⟨rb, rfl, hb⟩ := hb
  have hx0 := (Ext.alloc w (.cells #[.int .i64 m.tp, .int .i64 m.sy, .int .i64 m.st, ra] 37)).trans (Ext.alloc _ (.cells #[.int .i64 m.tp, .int .i64 m.sy, .int .i64 m.st, rb] 37))
  have ES := eqMultiRuleS_c _ _ _ _ (ha.ext hx0) (hb.ext hx0)
  have h1 : (m.tp != m.tp) = false := by simp
  have h2 : (m.sy != m.sy) = false := by simp
  have h3 : (m.st != m.st) = false := by simp
  go_enter Try.func11, Try.ntmps11
  go_wp2_with fail
  refine ES.mono ?_
  rintro e w1 ⟨rfl, hx1⟩
  go_wp2
  go_ret
  exact ⟨rfl, hx0.trans hx1⟩
end Go.Proofs.Ytfghojbbofobeaa
end
section
set_option linter.unusedSimpArgs false
set_option linter.unusedVariables false
namespace Go.Proofs.Ytfghojbbofobeaa
open Go Go.RowKit Go.Proofs
set_option maxHeartbeats 400000
set_option maxRecDepth 20000 in
set_option maxHeartbeats 4000000 in
theorem law11_c (v u : Value) (m : MultiD) (c : ConfD) (w : World) (h : Mult w v m) (h' : Conf w u c) :
    Calls Try.prog 3 #[v, u] w fun e w' => e = .returned (.bool true) ∧ Ext w w' := by
  obtain ⟨rv, rfl, hr⟩ := h
  obtain ⟨lv, qv, rfl, hl, hq⟩ := h'
  obtain ⟨Ar, cr, rfl, _, _⟩ := hr.form
  obtain ⟨Al, cl, rfl, _, _⟩ := hl.form
  obtain ⟨Aq, cq, rfl, _, _⟩ := hq.form
  obtain ⟨W, hW⟩ : ∃ W, W = (w.alloc (.cells #[.int .i64 m.tp, .int .i64 m.sy, .int .i64 m.st, .slice Ar m.rules.length cr] 24)).alloc (.cells #[.int .i64 c.q, .slice Al c.l.length cl, .slice Aq c.r.length cq] 27) := ⟨_, rfl⟩
  have hx0 : Ext w W := by rw [hW]; exact (Ext.alloc _ _).trans (Ext.alloc _ _)
  have bM : Blk W w.heap.size 24 #[.int .i64 m.tp, .int .i64 m.sy, .int .i64 m.st, .slice Ar m.rules.length cr] := by rw [hW]; exact (Blk.new _ _ _ _ rfl).alloc _
  have bC : Blk W (w.heap.size + 1) 27 #[.int .i64 c.q, .slice Al c.l.length cl, .slice Aq c.r.length cq] := by rw [hW]; exact Blk.new _ _ _ _ (by simp)
  have SZ := szMulti_c (.agg #[.int .i64 m.tp, .int .i64 m.sy, .int .i64 m.st, .slice Ar m.rules.length cr]) m 1048576 W ⟨_, rfl, hr.ext hx0⟩ (by omega) (by omega)
  go_enter Try.func3, Try.ntmps3
  go_wp2_with fail
  try rw [← hW]
  clear hW
  refine SZ.mono ?_
  rintro e w1 ⟨rfl, hx1⟩
  by_cases hbig : (1048576 : Int) < ((m.rules.length + totM m.rules : Nat) : Int)
  · rw [szF_no hbig]
    go_wp2
    go_ret
    exact ⟨rfl, hx0.trans hx1⟩
  · rw [szF_yes hbig]
    have hlen : m.rules.length + totM m.rules ≤ 1048576 := by omega
    have hX1 := hx0.trans hx1
    obtain ⟨lf, hlf⟩ : ∃ l, (1048576 : Int) - ((m.rules.length + totM m.rules : Nat) : Int) = l := ⟨_, rfl⟩
    rw [hlf]
    have hlf0 : 0 ≤ lf := by omega
    have hlf1 : lf ≤ 1048576 := by omega
    have SC := szConfig_c (.agg #[.int .i64 c.q, .slice Al c.l.length cl, .slice Aq c.r.length cq]) c lf w1 ⟨_, _, rfl, hl.ext hX1, hq.ext hX1⟩ hlf0 hlf1
    have d0 := (bC.ext hx1).cell 0
    have d1 := (bC.ext hx1).cell 1
    have d2 := (bC.ext hx1).cell 2
    simp only [List.getElem?_toArray, List.getElem?_cons_zero, List.getElem?_cons_succ] at d0 d1 d2
    clear hbig hlf SZ
    go_wp2_with fail
    refine SC.mono ?_
    rintro e w2 ⟨rfl, hx2⟩
    have hX2 := hX1.trans hx2
    clear d0 d1 d2 SC
    by_cases hbig : lf < ((c.l.length + c.r.length : Nat) : Int)
    · rw [szF_no hbig]
      go_wp2
      go_ret
      exact ⟨rfl, hX2⟩
    · rw [szF_yes hbig]
      have hsz : c.l.length + c.r.length ≤ 1048576 := by omega
      obtain ⟨l2, hl2⟩ : ∃ l, lf - ((c.l.length + c.r.length : Nat) : Int) = l := ⟨_, rfl⟩
      rw [hl2]
      have hl20 : 0 ≤ l2 := by omega
      have bM2 := (bM.ext hx1).ext hx2
      have bC2 := (bC.ext hx1).ext hx2
      clear hl2 hbig bM bC
      have c0 := bM2.cell 0
      have c1 := bM2.cell 1
      have c2 := bM2.cell 2
      have c3 := bM2.cell 3
      have d0 := bC2.cell 0
      have d1 := bC2.cell 1
      have d2 := bC2.cell 2
      simp only [List.getElem?_toArray, List.getElem?_cons_zero, List.getElem?_cons_succ] at c0 c1 c2 c3 d0 d1 d2
      have hM0 : Mult w2.drew (.agg #[.int .i64 m.tp, .int .i64 m.sy, .int .i64 m.st, .slice Ar m.rules.length cr]) m := ⟨_, rfl, (hr.ext hX2).ext (Ext.drew _)⟩
      have hC0 : Conf w2.drew (.agg #[.int .i64 c.q, .slice Al c.l.length cl, .slice Aq c.r.length cq]) c := ⟨_, _, rfl, (hl.ext hX2).ext (Ext.drew _), (hq.ext hX2).ext (Ext.drew _)⟩
      have hMz : Mult (w2.alloc zeroM).drew (.agg #[.int .i64 m.tp, .int .i64 m.sy, .int .i64 m.st, .slice Ar m.rules.length cr]) m := ⟨_, rfl, (hr.ext hX2).ext ((Ext.alloc _ _).trans (Ext.drew _))⟩
      have hCz : Conf (w2.alloc zeroM).drew (.agg #[.int .i64 c.q, .slice Al c.l.length cl, .slice Aq c.r.length cq]) c := ⟨_, _, rfl, (hl.ext hX2).ext ((Ext.alloc _ _).trans (Ext.drew _)), (hq.ext hX2).ext ((Ext.alloc _ _).trans (Ext.drew _))⟩
      obtain ⟨⟨⟨rq, rts⟩, rcode⟩, hRd⟩ : ∃ R, decAllM m c = R := ⟨_, rfl⟩
      have HRL : Hid (totT rts ≤ 3145800) := by
        have a := decAllM_tot m c
        rw [hRd] at a
        exact Lib.hid (by simp only at a; omega)
      have HRD := Lib.hid hRd
      clear hRd
      go_upto_region 8 with fail
      go_cut [6, 7] (fun s6 s7 wx => CutMC w2 (⟨rq, rts⟩, rcode) s6 s7 wx)
      case first =>
        go_region_held3 (fun w' => w'.cell? ⟨w.heap.size, 0, none⟩ = some (.int .i64 m.tp) ∧ w'.cell? ⟨w.heap.size, 1, none⟩ = some (.int .i64 m.sy) ∧ w'.cell? ⟨w.heap.size, 2, none⟩ = some (.int .i64 m.st) ∧ w'.cell? ⟨w.heap.size, 3, none⟩ = some (.slice Ar m.rules.length cr) ∧ w'.cell? ⟨w.heap.size + 1, 0, none⟩ = some (.int .i64 c.q) ∧ w'.cell? ⟨w.heap.size + 1, 1, none⟩ = some (.slice Al c.l.length cl) ∧ w'.cell? ⟨w.heap.size + 1, 2, none⟩ = some (.slice Aq c.r.length cq))
          (first | go_keep | exact ⟨(hS _ _).cell c0, (hS _ _).cell c1, (hS _ _).cell c2, (hS _ _).cell c3, (hS _ _).cell d0, (hS _ _).cell d1, (hS _ _).cell d2⟩ | exact ⟨(hD).cell c0, (hD).cell c1, (hD).cell c2, (hD).cell c3, (hD).cell d0, (hD).cell d1, (hD).cell d2⟩ | exact ⟨(hC).cell c0, (hC).cell c1, (hC).cell c2, (hC).cell c3, (hC).cell d0, (hC).cell d1, (hC).cell d2⟩ | exact ⟨(hB.trans (Ext.alloc _ zeroM)).cell c0, (hB.trans (Ext.alloc _ zeroM)).cell c1, (hB.trans (Ext.alloc _ zeroM)).cell c2, (hB.trans (Ext.alloc _ zeroM)).cell c3, (hB.trans (Ext.alloc _ zeroM)).cell d0, (hB.trans (Ext.alloc _ zeroM)).cell d1, (hB.trans (Ext.alloc _ zeroM)).cell d2⟩ | exact ⟨(hB).cell c0, (hB).cell c1, (hB).cell c2, (hB).cell c3, (hB).cell d0, (hB).cell d1, (hB).cell d2⟩ | exact ⟨(hA.trans (Ext.alloc _ zeroM)).cell c0, (hA.trans (Ext.alloc _ zeroM)).cell c1, (hA.trans (Ext.alloc _ zeroM)).cell c2, (hA.trans (Ext.alloc _ zeroM)).cell c3, (hA.trans (Ext.alloc _ zeroM)).cell d0, (hA.trans (Ext.alloc _ zeroM)).cell d1, (hA.trans (Ext.alloc _ zeroM)).cell d2⟩ | exact ⟨(hA).cell c0, (hA).cell c1, (hA).cell c2, (hA).cell c3, (hA).cell d0, (hA).cell d1, (hA).cell d2⟩)
          (first
            | (go_at_call 7; ((with_reducible refine (toMulti_c _ m _ hM0 hlen).mono ?_)); rintro e wA ⟨rvA, rfl, hoA, hxA'⟩; have hA := (Ext.drew w2).trans hxA'; have hMA := hoA.own.rules; have hC1 := hC0.ext hxA')
            | (go_at_call 7; ((with_reducible refine (toMulti_c _ m _ hMz hlen).mono ?_)); rintro e wA ⟨rvA, rfl, hoA, hxA'⟩; have hA := ((Ext.alloc w2 zeroM).trans (Ext.drew _)).trans hxA'; have hMA := hoA.own.rules; have hC1 := hCz.ext hxA'; have bZA := (Blk.drew (Blk.new w2 w2.heap.size _ _ rfl)).ext hxA'; have hgz : w2.heap.size ≤ w2.heap.size := Nat.le_refl _)
            | (go_at_call 8; ((with_reducible refine (toConfigM_c _ c _ hC1 hsz).mono ?_)); rintro e wB ⟨uB, rfl, hCf, hxB⟩; have hB := hA.trans hxB; have hMf := hMA.ext hxB; have bZB := bZA.ext hxB)
            | (go_at_call 8; ((with_reducible refine (toConfigM_c _ c _ hC1 hsz).mono ?_)); rintro e wB ⟨uB, rfl, hCf, hxB⟩; have hB := hA.trans hxB; have hMf := hMA.ext hxB)
            | (go_at_call 8; ((with_reducible refine (toConfigM_c _ c _ (hC1.ext (Ext.alloc _ zeroM)) hsz).mono ?_)); rintro e wB ⟨uB, rfl, hCf, hxB⟩; have hB := hA.trans ((Ext.alloc _ zeroM).trans hxB); have hMf := hMA.ext ((Ext.alloc _ zeroM).trans hxB); have bZB := (Blk.new wA wA.heap.size _ _ rfl).ext hxB; have hgz := hA.size)
            | (go_at_call 6; ((with_reducible refine (specDecodeOneTapeM_c _ _ m c _ _ hMf hCf).mono ?_)); rw [HRD.out]; rintro e wC ⟨vS, rfl, oS, hxC⟩; have hC := hB.trans hxC; have bZC := bZB.ext hxC; obtain ⟨AS, cS, rfl, _, _⟩ := oS.form; have hS := Ext.set2 hC hgz; have vc := bZC.cell; have vf := bZC.frozen)
            | (go_at_call 6; ((with_reducible refine (specDecodeOneTapeM_c _ _ m c _ _ hMf hCf).mono ?_)); rw [HRD.out]; rintro e wC ⟨vS, rfl, oS, hxC⟩; have hC := hB.trans hxC; obtain ⟨AS, cS, rfl, _, _⟩ := oS.form; have hD := hC.trans (Ext.alloc wC (.cells #[.int .i64 rq, .slice AS rts.length cS] 32)))
            | (go_at_call 6; ((with_reducible refine (specDecodeOneTapeM_c _ _ m c _ _ (hMf.ext (Ext.alloc _ zeroM)) (hCf.ext (Ext.alloc _ zeroM))).mono ?_)); rw [HRD.out]; rintro e wC ⟨vS, rfl, oS, hxC⟩; have hC := hB.trans ((Ext.alloc _ zeroM).trans hxC); have bZC := (Blk.new wB wB.heap.size _ _ rfl).ext hxC; have hgz := hB.size; obtain ⟨AS, cS, rfl, _, _⟩ := oS.form; have hS := Ext.set2 hC hgz; have vc := bZC.cell; have vf := bZC.frozen))
        all_goals
          go_wp2_with fail
          go_meet
          first
            | exact CutMC.early (R := (⟨rq, rts⟩, rcode)) hC oS bZC hgz
            | exact CutMC.late (R := (⟨rq, rts⟩, rcode)) hC oS
      case rest =>
        rename World => wS
        obtain ⟨gS, vS, rfl, rfl, bS, hxS, hgS, iS⟩ := hcut
        simp only at bS iS ⊢
        obtain ⟨AS, cS, rfl, _, _⟩ := iS.form
        have hXC := hX2.trans hxS
        have bMC := bM2.ext hxS
        have bCC := bC2.ext hxS
        clear c0 c1 c2 c3 d0 d1 d2 hM0 hC0 hMz hCz
        have T5 := toMulti_c (.agg #[.int .i64 m.tp, .int .i64 m.sy, .int .i64 m.st, .slice Ar m.rules.length cr]) m wS ⟨_, rfl, hr.ext hXC⟩ hlen
        have c0 := bMC.cell 0
        have c1 := bMC.cell 1
        have c2 := bMC.cell 2
        have c3 := bMC.cell 3
        simp only [List.getElem?_toArray, List.getElem?_cons_zero, List.getElem?_cons_succ] at c0 c1 c2 c3
        -- region 9
        go_wp2_with fail
        refine T5.mono ?_
        rintro e w5 ⟨rv5, rfl, o5, hx5⟩
        obtain ⟨A5, c5, rfl, _, _⟩ := o5.form
        obtain ⟨W5, hW5⟩ : ∃ W, W = w5.alloc (.cells #[.int .i64 m.tp, .int .i64 m.sy, .int .i64 m.st, .slice A5 m.rules.length c5] 37) := ⟨_, rfl⟩
        have hxW5 : Ext w5 W5 := by rw [hW5]; exact Ext.alloc _ _
        have bX : Blk W5 w5.heap.size 37 #[.int .i64 m.tp, .int .i64 m.sy, .int .i64 m.st, .slice A5 m.rules.length c5] := by rw [hW5]; exact Blk.new _ _ _ _ rfl
        have hE5 := hx5.trans hxW5
        have hX5 := hXC.trans hE5
        have oX := o5.ext hxW5
        have bC5 := bCC.ext hE5
        have T6 := toConfig_c (.agg #[.int .i64 c.q, .slice Al c.l.length cl, .slice Aq c.r.length cq]) c W5 ⟨_, _, rfl, hl.ext hX5, hq.ext hX5⟩ hsz
        clear c0 c1 c2 c3 T5
        have d0 := bC5.cell 0
        have d1 := bC5.cell 1
        have d2 := bC5.cell 2
        simp only [List.getElem?_toArray, List.getElem?_cons_zero, List.getElem?_cons_succ] at d0 d1 d2
        rw [hW5] at d0 d1 d2
        -- region 10
        go_wp2_with fail
        rw [← hW5]
        clear hW5 d0 d1 d2
        refine T6.mono ?_
        rintro e w6 ⟨lv6, rv6, rfl, ol6, or6, ap6, hx6⟩
        have fl6 := ol6.flat
        have fr6 := or6.flat
        obtain ⟨A6, c6, rfl, _, _⟩ := ol6.ints.form
        obtain ⟨B6, e6, rfl, _, _⟩ := or6.ints.form
        obtain ⟨V, hV⟩ : ∃ W, W = w6.alloc (.cells #[.int .i64 c.q, .slice A6 c.l.length c6, .slice B6 c.r.length e6] 39) := ⟨_, rfl⟩
        have hxV : Ext w6 V := by rw [hV]; exact Ext.alloc _ _
        have bY : Blk V w6.heap.size 39 #[.int .i64 c.q, .slice A6 c.l.length c6, .slice B6 c.r.length e6] := by rw [hV]; exact Blk.new _ _ _ _ rfl
        have hE6 := hE5.trans (hx6.trans hxV)
        have bX6 := bX.ext (hx6.trans hxV)
        have oX6 := oX.ext (hx6.trans hxV)
        have oL6 := ol6.ext hxV
        have oR6 := or6.ext hxV
        have DR := DecodeOneTape_c (.agg #[.int .i64 m.tp, .int .i64 m.sy, .int .i64 m.st, .slice A5 m.rules.length c5]) m c _ _ V ⟨_, rfl, oX6.own.rules⟩ oL6.ints oR6.ints fl6 fr6
        rw [HRD.out] at DR
        clear T6
        have c0 := bX6.cell 0
        have c1 := bX6.cell 1
        have c2 := bX6.cell 2
        have c3 := bX6.cell 3
        simp only [List.getElem?_toArray, List.getElem?_cons_zero, List.getElem?_cons_succ] at c0 c1 c2 c3
        rw [hV] at c0 c1 c2 c3
        -- region 11
        go_wp2_with fail
        rw [← hV]
        clear hV c0 c1 c2 c3
        refine DR.mono ?_
        rintro e w7 ⟨v7, cl7, rfl, o7, hx7⟩
        simp only at o7
        obtain ⟨A7, c7, rfl, _, _⟩ := o7.ownT.form
        obtain ⟨W7, hW7⟩ : ∃ W, W = w7.alloc (.cells #[.int .i64 rq, .slice A7 rts.length c7] 32) := ⟨_, rfl⟩
        have hxW7 : Ext w7 W7 := by rw [hW7]; exact Ext.alloc _ _
        have bG : Blk W7 w7.heap.size 32 #[.int .i64 rq, .slice A7 rts.length c7] := by rw [hW7]; exact Blk.new _ _ _ _ rfl
        have hx77 := hx7.trans hxW7
        have hE7 := hE6.trans hx77
        have oG := o7.ext hxW7
        have bS7 := bS.ext hE7
        have bX7 := bX6.ext hx77
        have bY7 := bY.ext hx77
        have oX7 := oX6.ext hx77
        have oY1 := oL6.ext hx77
        have oY2 := oR6.ext hx77
        have EQ := eqMultiConfig_c _ _ rq rts W7 oG.tapes (iS.ext hE7)
        have hcc : (rcode != rcode) = false := by simp
        clear DR
        have s0 := bS7.cell 0
        have s1 := bS7.cell 1
        simp only [List.getElem?_toArray, List.getElem?_cons_zero, List.getElem?_cons_succ] at s0 s1
        rw [hW7] at s0 s1
        -- region 12
        go_wp2_with fail
        rw [← hW7]
        clear hW7 s0 s1
        refine EQ.mono ?_
        rintro e w8 ⟨rfl, hx8⟩
        have hE8 := hE7.trans hx8
        have hXw8 := hXC.trans hE8
        clear EQ
        have c0 := (bX7.ext hx8).cell 0
        have c1 := (bX7.ext hx8).cell 1
        have c2 := (bX7.ext hx8).cell 2
        have c3 := (bX7.ext hx8).cell 3
        have d0 := (bMC.ext hE8).cell 0
        have d1 := (bMC.ext hE8).cell 1
        have d2 := (bMC.ext hE8).cell 2
        have d3 := (bMC.ext hE8).cell 3
        simp only [List.getElem?_toArray, List.getElem?_cons_zero, List.getElem?_cons_succ] at c0 c1 c2 c3 d0 d1 d2 d3
        have hMr : Mult w8.drew (.agg #[.int .i64 m.tp, .int .i64 m.sy, .int .i64 m.st, .slice Ar m.rules.length cr]) m := ⟨_, rfl, (hr.ext hXw8).ext (Ext.drew _)⟩
        have hMx : Mult w8 (.agg #[.int .i64 m.tp, .int .i64 m.sy, .int .i64 m.st, .slice A5 m.rules.length c5]) m := ⟨_, rfl, (oX7.ext hx8).own.rules⟩
        have hdc : decide (c = c) = true := by simp
        -- region 14
        go_wp2_with fail
        go_region_held3 (fun w' => w'.cell? ⟨w5.heap.size, 0, none⟩ = some (.int .i64 m.tp) ∧ w'.cell? ⟨w5.heap.size, 1, none⟩ = some (.int .i64 m.sy) ∧ w'.cell? ⟨w5.heap.size, 2, none⟩ = some (.int .i64 m.st) ∧ w'.cell? ⟨w5.heap.size, 3, none⟩ = some (.slice A5 m.rules.length c5) ∧ w'.cell? ⟨w.heap.size, 0, none⟩ = some (.int .i64 m.tp) ∧ w'.cell? ⟨w.heap.size, 1, none⟩ = some (.int .i64 m.sy) ∧ w'.cell? ⟨w.heap.size, 2, none⟩ = some (.int .i64 m.st) ∧ w'.cell? ⟨w.heap.size, 3, none⟩ = some (.slice Ar m.rules.length cr))
          (first | go_keep | exact ⟨hx9.cell c0, hx9.cell c1, hx9.cell c2, hx9.cell c3, hx9.cell d0, hx9.cell d1, hx9.cell d2, hx9.cell d3⟩ | exact ⟨hx10.cell c0, hx10.cell c1, hx10.cell c2, hx10.cell c3, hx10.cell d0, hx10.cell d1, hx10.cell d2, hx10.cell d3⟩)
          (first
            | (go_at_call 7; ((with_reducible refine (toMulti_c _ m _ hMr hlen).mono ?_)); rintro e w9 ⟨rv9, rfl, ho9, hx9'⟩; have hx9 := (Ext.drew w8).trans hx9'; have hM9 : Mult w9 (.agg #[.int .i64 m.tp, .int .i64 m.sy, .int .i64 m.st, rv9]) m := ⟨_, rfl, ho9.own.rules⟩; have hM9x := hMx.ext hx9)
            | (go_at_call 11; ((with_reducible refine (eqMulti_c _ _ m _ hM9x hM9).mono ?_)); rintro e w10 ⟨rfl, hx10'⟩; have hx10 := hx9.trans hx10'))
        have hxA := hx8.trans hx10
        have hE10 := hE7.trans hxA
        have hXw10 := hXC.trans hE10
        have oX10 := oX7.ext hxA
        have oG10 := oG.ext hxA
        have oY10 := oY1.ext hxA
        have oY20 := oY2.ext hxA
        have bY10 := bY7.ext hxA
        have bX10 := bX7.ext hxA
        have bG10 := bG.ext hxA
        clear c0 c1 c2 c3 d0 d1 d2 d3
        have c0 := bY10.cell 0
        have c1 := bY10.cell 1
        have c2 := bY10.cell 2
        have d0 := (bCC.ext hE10).cell 0
        have d1 := (bCC.ext hE10).cell 1
        have d2 := (bCC.ext hE10).cell 2
        simp only [List.getElem?_toArray, List.getElem?_cons_zero, List.getElem?_cons_succ] at c0 c1 c2 d0 d1 d2
        have hCr : Conf w10.drew (.agg #[.int .i64 c.q, .slice Al c.l.length cl, .slice Aq c.r.length cq]) c := ⟨_, _, rfl, (hl.ext hXw10).ext (Ext.drew _), (hq.ext hXw10).ext (Ext.drew _)⟩
        have hCx : Conf w10 (.agg #[.int .i64 c.q, .slice A6 c.l.length c6, .slice B6 c.r.length e6]) c := ⟨_, _, rfl, oY10.ints, oY20.ints⟩
        -- region 16
        go_wp2_with fail
        go_region_held3 (fun w' => w'.cell? ⟨w6.heap.size, 0, none⟩ = some (.int .i64 c.q) ∧ w'.cell? ⟨w6.heap.size, 1, none⟩ = some (.slice A6 c.l.length c6) ∧ w'.cell? ⟨w6.heap.size, 2, none⟩ = some (.slice B6 c.r.length e6) ∧ w'.cell? ⟨w.heap.size + 1, 0, none⟩ = some (.int .i64 c.q) ∧ w'.cell? ⟨w.heap.size + 1, 1, none⟩ = some (.slice Al c.l.length cl) ∧ w'.cell? ⟨w.heap.size + 1, 2, none⟩ = some (.slice Aq c.r.length cq))
          (first | go_keep | exact ⟨hx11.cell c0, hx11.cell c1, hx11.cell c2, hx11.cell d0, hx11.cell d1, hx11.cell d2⟩ | exact ⟨hx12.cell c0, hx12.cell c1, hx12.cell c2, hx12.cell d0, hx12.cell d1, hx12.cell d2⟩)
          (first
            | (go_at_call 8; ((with_reducible refine (toConfigM_c _ c _ hCr hsz).mono ?_)); rintro e w11 ⟨u11, rfl, hC11, hx11'⟩; have hx11 := (Ext.drew w10).trans hx11'; have hC11x := hCx.ext hx11)
            | (go_at_call 12; ((with_reducible refine (eqConfig_c _ _ _ c c hC11x hC11.conf).mono ?_)); rintro e w12 ⟨rfl, hx12'⟩; have hx12 := hx11.trans hx12'))
        have hE12 := hE10.trans hx12
        have oX12 := oX10.ext hx12
        have oG12 := oG10.ext hx12
        have oY12 := oY10.ext hx12
        have oY22 := oY20.ext hx12
        have bY12 := bY10.ext hx12
        have bX12 := bX10.ext hx12
        have bG12 := bG10.ext hx12
        have hx5t : Ext w5 w12 := hxW5.trans ((hx6.trans hxV).trans (hx77.trans (hxA.trans hx12)))
        have hs5 := hxW5.size
        have hs56 := hx6.size
        have hs6 := hxV.size
        have hs7 := hx7.size
        have MK := markMulti_c wS.heap.size m.tp m.sy m.st _ m.rules 1 w5 w12 o5 hx5t hE12.size (by omega) (by omega)
        clear c0 c1 c2 d0 d1 d2
        have c0 := bX12.cell 0
        have c1 := bX12.cell 1
        have c2 := bX12.cell 2
        have c3 := bX12.cell 3
        simp only [List.getElem?_toArray, List.getElem?_cons_zero, List.getElem?_cons_succ] at c0 c1 c2 c3
        -- region 19
        go_wp2_with fail
        refine MK.mono ?_
        rintro e w13 ⟨rfl, hb13, ht13⟩
        have hE13 : Ext wS w13 := Below.trans hE12 hb13
        have hk13 : KeepB w5.heap.size w12 w13 := ht13.keepB (Nat.le_refl _) hb13.size
        have hk5 : KeepB W5.heap.size w12 w13 := ht13.keepB hs5 hb13.size
        have hkV : KeepB V.heap.size w12 w13 := ht13.keepB (by omega) hb13.size
        have oG13 := oG12.keepB hkV
        have oY13 := ownsRow_keepB oY12 hk5
        have oY23 := ownsRow_keepB oY22 hk5
        have bG13 := bG12.keepB hkV hs7
        have bY13 := bY12.keepB hk5 hs56
        have hsz12 : V.heap.size ≤ w12.heap.size := by have a2 := hx77.size; have a3 := hxA.size; have a4 := hx12.size; omega
        have hsz13 : W5.heap.size ≤ w13.heap.size := by have a5 := hb13.size; omega
        have hVsz : V.heap.size ≤ w13.heap.size := by have a5 := hb13.size; omega
        have MC := markConfig_c W5.heap.size c.q _ _ c.l c.r (1 + ((2 * m.rules.length + totM m.rules : Nat) : Int)) w13 oY13 oY23 ap6 hsz13 (by omega) (by omega)
        clear c0 c1 c2 c3 MK
        have d0 := bY13.cell 0
        have d1 := bY13.cell 1
        have d2 := bY13.cell 2
        simp only [List.getElem?_toArray, List.getElem?_cons_zero, List.getElem?_cons_succ] at d0 d1 d2
        -- region 20
        go_wp2_with fail
        refine MC.mono ?_
        rintro e w14 ⟨rfl, _, _, hb14, ht14⟩
        have hE14 : Ext wS w14 := Below.trans hE13 (Below.mono hb14 hE5.size)
        have hk14 : KeepB V.heap.size w13 w14 := ht14.keepB (fun g hg => (oL6.lt g hg).2) (fun g hg => (oR6.lt g hg).2)
        have oG14 := oG13.keepB hk14
        have bG14 := bG13.keepB hk14 hs7
        have bS14 := bS.ext hE14
        have hk1 : decide ((1 : Int) + ((2 * m.rules.length + totM m.rules : Nat) : Int) + (c.l.length : Int) + (c.r.length : Int) < 0) = false := decide_eq_false (by omega)
        have EQ := eqMultiConfig_c _ _ rq rts w14 oG14.tapes (iS.ext hE14)
        have hV14 : V.heap.size ≤ w14.heap.size := by have a := hb14.size; omega
        clear d0 d1 d2 MC
        have g0 := bG14.cell 0
        have g1 := bG14.cell 1
        have s0 := bS14.cell 0
        have s1 := bS14.cell 1
        simp only [List.getElem?_toArray, List.getElem?_cons_zero, List.getElem?_cons_succ] at g0 g1 s0 s1
        -- region 21
        go_wp2_with fail
        refine EQ.mono ?_
        rintro e w15 ⟨rfl, hx15⟩
        have hE15 := hE14.trans hx15
        have oG15 := oG14.ext hx15
        have bG15 := bG14.ext hx15
        have hsz15 : V.heap.size ≤ w15.heap.size := by have a2 := hx15.size; omega
        have hVw : wS.heap.size ≤ V.heap.size := hE6.size
        have MT := markMultiConfig_c V rq _ cl7 rts 1 w15 oG15 hsz15 (by omega) (by have := HRL.out; omega)
        clear g0 g1 s0 s1 EQ
        have g0 := bG15.cell 0
        have g1 := bG15.cell 1
        simp only [List.getElem?_toArray, List.getElem?_cons_zero, List.getElem?_cons_succ] at g0 g1
        -- region 24
        go_wp2_with fail
        refine MT.mono ?_
        rintro e w16' ⟨rfl, ⟨ts', hMk, oN⟩, hb16, hNI⟩
        have hE16' : Ext wS w16' := Below.trans hE15 (Below.mono hb16 hVw)
        have bG16' := hNI _ _ bG15
        have iN := oN.tapes
        have HLN := Lib.hid hMk.len
        have HMk := Lib.hid hMk
        have hk2 : decide ((1 : Int) + ((totT rts : Nat) : Int) < 0) = false := decide_eq_false (by omega)
        have HE := heldMultiConfig_c rq _ rts ts' 1 w16' iN hMk (by omega) (by have := HRL.out; omega)
        clear g0 g1 MT hMk
        have g0 := bG16'.cell 0
        have g1 := bG16'.cell 1
        simp only [List.getElem?_toArray, List.getElem?_cons_zero, List.getElem?_cons_succ] at g0 g1
        -- region 26
        go_wp2_with fail
        refine HE.mono ?_
        rintro e w16 ⟨rfl, hx16⟩
        have hE16 := hE16'.trans hx16
        have hXw16 := hXC.trans hE16
        have bM16 := bMC.ext hE16
        have bC16 := bCC.ext hE16
        clear g0 g1 HE
        have c0 := bM16.cell 0
        have c1 := bM16.cell 1
        have c2 := bM16.cell 2
        have c3 := bM16.cell 3
        have d0 := bC16.cell 0
        have d1 := bC16.cell 1
        have d2 := bC16.cell 2
        simp only [List.getElem?_toArray, List.getElem?_cons_zero, List.getElem?_cons_succ] at c0 c1 c2 c3 d0 d1 d2
        have hM0 : Mult w16.drew (.agg #[.int .i64 m.tp, .int .i64 m.sy, .int .i64 m.st, .slice Ar m.rules.length cr]) m := ⟨_, rfl, (hr.ext hXw16).ext (Ext.drew _)⟩
        have hC0 : Conf w16.drew (.agg #[.int .i64 c.q, .slice Al c.l.length cl, .slice Aq c.r.length cq]) c := ⟨_, _, rfl, (hl.ext hXw16).ext (Ext.drew _), (hq.ext hXw16).ext (Ext.drew _)⟩
        have hMz : Mult (w16.alloc zeroM).drew (.agg #[.int .i64 m.tp, .int .i64 m.sy, .int .i64 m.st, .slice Ar m.rules.length cr]) m := ⟨_, rfl, (hr.ext hXw16).ext ((Ext.alloc _ _).trans (Ext.drew _))⟩
        have hCz : Conf (w16.alloc zeroM).drew (.agg #[.int .i64 c.q, .slice Al c.l.length cl, .slice Aq c.r.length cq]) c := ⟨_, _, rfl, (hl.ext hXw16).ext ((Ext.alloc _ _).trans (Ext.drew _)), (hq.ext hXw16).ext ((Ext.alloc _ _).trans (Ext.drew _))⟩
        -- region 31
        go_upto_region 31 with fail
        go_cut [15, 16] (fun s6 s7 wx => CutMC w16 (⟨rq, rts⟩, rcode) s6 s7 wx)
        case first =>
          go_region_held3 (fun w' => w'.cell? ⟨w.heap.size, 0, none⟩ = some (.int .i64 m.tp) ∧ w'.cell? ⟨w.heap.size, 1, none⟩ = some (.int .i64 m.sy) ∧ w'.cell? ⟨w.heap.size, 2, none⟩ = some (.int .i64 m.st) ∧ w'.cell? ⟨w.heap.size, 3, none⟩ = some (.slice Ar m.rules.length cr) ∧ w'.cell? ⟨w.heap.size + 1, 0, none⟩ = some (.int .i64 c.q) ∧ w'.cell? ⟨w.heap.size + 1, 1, none⟩ = some (.slice Al c.l.length cl) ∧ w'.cell? ⟨w.heap.size + 1, 2, none⟩ = some (.slice Aq c.r.length cq))
            (first | go_keep | exact ⟨(hS _ _).cell c0, (hS _ _).cell c1, (hS _ _).cell c2, (hS _ _).cell c3, (hS _ _).cell d0, (hS _ _).cell d1, (hS _ _).cell d2⟩ | exact ⟨(hD).cell c0, (hD).cell c1, (hD).cell c2, (hD).cell c3, (hD).cell d0, (hD).cell d1, (hD).cell d2⟩ | exact ⟨(hC).cell c0, (hC).cell c1, (hC).cell c2, (hC).cell c3, (hC).cell d0, (hC).cell d1, (hC).cell d2⟩ | exact ⟨(hB.trans (Ext.alloc _ zeroM)).cell c0, (hB.trans (Ext.alloc _ zeroM)).cell c1, (hB.trans (Ext.alloc _ zeroM)).cell c2, (hB.trans (Ext.alloc _ zeroM)).cell c3, (hB.trans (Ext.alloc _ zeroM)).cell d0, (hB.trans (Ext.alloc _ zeroM)).cell d1, (hB.trans (Ext.alloc _ zeroM)).cell d2⟩ | exact ⟨(hB).cell c0, (hB).cell c1, (hB).cell c2, (hB).cell c3, (hB).cell d0, (hB).cell d1, (hB).cell d2⟩ | exact ⟨(hA.trans (Ext.alloc _ zeroM)).cell c0, (hA.trans (Ext.alloc _ zeroM)).cell c1, (hA.trans (Ext.alloc _ zeroM)).cell c2, (hA.trans (Ext.alloc _ zeroM)).cell c3, (hA.trans (Ext.alloc _ zeroM)).cell d0, (hA.trans (Ext.alloc _ zeroM)).cell d1, (hA.trans (Ext.alloc _ zeroM)).cell d2⟩ | exact ⟨(hA).cell c0, (hA).cell c1, (hA).cell c2, (hA).cell c3, (hA).cell d0, (hA).cell d1, (hA).cell d2⟩)
            (first
              | (go_at_call 7; ((with_reducible refine (toMulti_c _ m _ hM0 hlen).mono ?_)); rintro e wA ⟨rvA, rfl, hoA, hxA'⟩; have hA := (Ext.drew w16).trans hxA'; have hMA := hoA.own.rules; have hC1 := hC0.ext hxA')
              | (go_at_call 7; ((with_reducible refine (toMulti_c _ m _ hMz hlen).mono ?_)); rintro e wA ⟨rvA, rfl, hoA, hxA'⟩; have hA := ((Ext.alloc w16 zeroM).trans (Ext.drew _)).trans hxA'; have hMA := hoA.own.rules; have hC1 := hCz.ext hxA'; have bZA := (Blk.drew (Blk.new w16 w16.heap.size _ _ rfl)).ext hxA'; have hgz : w16.heap.size ≤ w16.heap.size := Nat.le_refl _)
              | (go_at_call 8; ((with_reducible refine (toConfigM_c _ c _ hC1 hsz).mono ?_)); rintro e wB ⟨uB, rfl, hCf, hxB⟩; have hB := hA.trans hxB; have hMf := hMA.ext hxB; have bZB := bZA.ext hxB)
              | (go_at_call 8; ((with_reducible refine (toConfigM_c _ c _ hC1 hsz).mono ?_)); rintro e wB ⟨uB, rfl, hCf, hxB⟩; have hB := hA.trans hxB; have hMf := hMA.ext hxB)
              | (go_at_call 8; ((with_reducible refine (toConfigM_c _ c _ (hC1.ext (Ext.alloc _ zeroM)) hsz).mono ?_)); rintro e wB ⟨uB, rfl, hCf, hxB⟩; have hB := hA.trans ((Ext.alloc _ zeroM).trans hxB); have hMf := hMA.ext ((Ext.alloc _ zeroM).trans hxB); have bZB := (Blk.new wA wA.heap.size _ _ rfl).ext hxB; have hgz := hA.size)
              | (go_at_call 9; ((with_reducible refine (DecodeOneTapeT_c _ _ m c _ _ hMf hCf).mono ?_)); rw [HRD.out]; rintro e wC ⟨vS, rfl, oS, hxC⟩; have hC := hB.trans hxC; have bZC := bZB.ext hxC; obtain ⟨AS, cS, rfl, _, _⟩ := oS.form; have hS := Ext.set2 hC hgz; have vc := bZC.cell; have vf := bZC.frozen)
              | (go_at_call 9; ((with_reducible refine (DecodeOneTapeT_c _ _ m c _ _ hMf hCf).mono ?_)); rw [HRD.out]; rintro e wC ⟨vS, rfl, oS, hxC⟩; have hC := hB.trans hxC; obtain ⟨AS, cS, rfl, _, _⟩ := oS.form; have hD := hC.trans (Ext.alloc wC (.cells #[.int .i64 rq, .slice AS rts.length cS] 32)))
              | (go_at_call 9; ((with_reducible refine (DecodeOneTapeT_c _ _ m c _ _ (hMf.ext (Ext.alloc _ zeroM)) (hCf.ext (Ext.alloc _ zeroM))).mono ?_)); rw [HRD.out]; rintro e wC ⟨vS, rfl, oS, hxC⟩; have hC := hB.trans ((Ext.alloc _ zeroM).trans hxC); have bZC := (Blk.new wB wB.heap.size _ _ rfl).ext hxC; have hgz := hB.size; obtain ⟨AS, cS, rfl, _, _⟩ := oS.form; have hS := Ext.set2 hC hgz; have vc := bZC.cell; have vf := bZC.frozen))
          all_goals
            go_wp2_with fail
            go_meet
            first
              | exact CutMC.early (R := (⟨rq, rts⟩, rcode)) hC oS bZC hgz
              | exact CutMC.late (R := (⟨rq, rts⟩, rcode)) hC oS
        case rest =>
          rename World => wh
          obtain ⟨gH, vH, rfl, rfl, bH, hxH, hgH, iH⟩ := hcut
          simp only at bH iH ⊢
          obtain ⟨AH, cH, rfl, _, _⟩ := iH.form
          have hEH := hE16.trans hxH
          have bSH := bS.ext hEH
          have EQ := eqMultiConfig_c _ _ rq rts wh iH (iS.ext hEH)
          clear c0 c1 c2 c3 d0 d1 d2 hM0 hC0 hMz hCz
          have g0 := bH.cell 0
          have g1 := bH.cell 1
          have s0 := bSH.cell 0
          have s1 := bSH.cell 1
          simp only [List.getElem?_toArray, List.getElem?_cons_zero, List.getElem?_cons_succ] at g0 g1 s0 s1
          -- region 32
          go_wp2_with fail
          refine EQ.mono ?_
          rintro e w17 ⟨rfl, hx17⟩
          have hLast := (hx16.trans hxH).trans hx17
          have bG17 := bG16'.ext hLast
          have HE := heldMultiConfig_c rq _ rts ts' 1 w17 (iN.ext hLast) HMk.out (by omega) (by have := HRL.out; omega)
          clear g0 g1 s0 s1 EQ
          have g0 := bG17.cell 0
          have g1 := bG17.cell 1
          simp only [List.getElem?_toArray, List.getElem?_cons_zero, List.getElem?_cons_succ] at g0 g1
          -- region 35
          go_wp2_with fail
          refine HE.mono ?_
          rintro e w18 ⟨rfl, hx18⟩
          go_wp2
          go_ret
          exact ⟨rfl, ((hXC.trans hE16').trans hLast).trans hx18⟩
end Go.Proofs.Ytfghojbbofobeaa
end
