/- Contract of the reference's test of a machine with several tapes. No condition.
Worlds that keep the blocks from one on.
Contract of the reference's step of a configuration with several tapes. -/
import Derived.Test.YtfghojbbofobeaaGreatDoorW38
import Derived.Test.YtfghojbbofobeaaGreatDoorW03
import Derived.Test.YtfghojbbofobeaaGreatDoorW20
import Derived.Maps.AppendAt
import Derived.Laws.AppendOwnNone
import Derived.Test.YtfghojbbofobeaaGreatDoorW13
import Derived.Deep.CutBlock
import Derived.Deep.DeepCutAuto
import Derived.Test.YtfghojbbofobeaaGreatDoorW18
import Derived.Test.YtfghojbbofobeaaGreatDoorW12
section
set_option linter.unusedVariables false
set_option linter.unusedSimpArgs false
namespace Go.Proofs.YtfghojbbofobeaaGreatDoor
open Go Go.RowKit Go.Proofs
set_option maxHeartbeats 400000
set_option maxRecDepth 20000 in
set_option maxHeartbeats 4000000 in
theorem l06Is_c (bm : Nat) (m : MultiD) (rv : Value) (w : World) (hb : Blk w bm 33 #[.int .i64 m.tp, .int .i64 m.sy, .int .i64 m.st, rv]) (hr : MRules w rv m.rules) :
    Calls Tryz.prog 19 #[.pointer (some ⟨bm, 0, none⟩)] w fun e w' => e = .returned (.bool (multiOk m)) ∧ Ext w w' := by
  obtain ⟨A, c, rfl, hc1, hc2⟩ := hr.form
  have m0 := hb.cell 0
  have m1 := hb.cell 1
  have m2 := hb.cell 2
  have m3 := hb.cell 3
  simp only [List.getElem?_toArray, List.getElem?_cons_zero, List.getElem?_cons_succ] at m0 m1 m2 m3
  obtain ⟨K, hK⟩ : ∃ K, multiOk m = K := ⟨_, rfl⟩
  rw [hK]
  have HK := Lib.hid hK
  clear hK
  have L1 := fun w => l00In_c m.tp 2 3 w
  have L2 := fun w => l00In_c m.sy 2 3 w
  have L3 := fun w => l00In_c m.st 1 16 w
  go_enter Tryz.func19, Tryz.ntmps19
  go_wp2_with fail
  refine (L1 w).mono ?_
  rintro e _ ⟨rfl, rfl⟩
  cases h1 : inB m.tp 2 3 with
  | false =>
    have HE : Hid (K = false) := by unfold Hid; rw [← HK.out, multiOk, h1]; simp
    clear h1
    go_wp2_with fail
    go_ret
    exact ⟨by rw [HE.out]; rfl, Ext.refl _⟩
  | true =>
    have H1 := Lib.hid h1
    clear h1
    go_wp2_with fail
    refine (L2 _).mono ?_
    rintro e _ ⟨rfl, rfl⟩
    cases h2 : inB m.sy 2 3 with
    | false =>
      have HE : Hid (K = false) := by unfold Hid; rw [← HK.out, multiOk, h2]; simp
      clear h2
      go_wp2_with fail
      go_ret
      exact ⟨by rw [HE.out]; rfl, Ext.refl _⟩
    | true =>
      have H2 := Lib.hid h2
      clear h2
      go_wp2_with fail
      refine (L3 _).mono ?_
      rintro e _ ⟨rfl, rfl⟩
      cases h3 : inB m.st 1 16 with
      | false =>
        have HE : Hid (K = false) := by unfold Hid; rw [← HK.out, multiOk, h3]; simp
        clear h3
        go_wp2_with fail
        go_ret
        exact ⟨by rw [HE.out]; rfl, Ext.refl _⟩
      | true =>
        have H3 := Lib.hid h3
        clear h3
        by_cases h4 : m.rules.length ≤ 60
        · have i4 : ¬ (60 : Int) < (m.rules.length : Int) := by omega
          obtain ⟨t1, t2⟩ := inB_iff.1 H1.out
          obtain ⟨s1, s2⟩ := inB_iff.1 H2.out
          obtain ⟨q1, q2⟩ := inB_iff.1 H3.out
          have hw1 : IntKind.i64.wrap (m.st - 1) = m.st - 1 := IntWalk.i64_in _ (by omega)
          have hw2 : IntKind.i64.wrap (m.sy - 1) = m.sy - 1 := IntWalk.i64_in _ (by omega)
          clear L1 L2 L3
          go_wp2_with fail
          go_loopw [3] (fun i wr => ∃ k : Nat, k ≤ m.rules.length ∧ i = .int .i64 (k : Int) ∧ Ext w wr ∧ Hid (∀ j, j < k → mstepOk m j = true)) (fun i _ => m.rules.length - (intOf i).toNat)
          case atStart => exact ⟨0, Nat.zero_le _, rfl, Ext.refl _, Lib.hid fun j hj => by omega⟩
          case round =>
            obtain ⟨k, hk, rfl, hx, HOK⟩ := hrel
            have e0 := hx.cell m0
            have e1 := hx.cell m1
            have e2 := hx.cell m2
            have e3 := hx.cell m3
            by_cases hlt : k < m.rules.length
            · have hrr := hr.ext hx
              obtain ⟨b, off, vr, vw, vm, rfl, c0, c1, c2, c3, c4, j1, j2, j3⟩ := hrr.at hlt
              have hgd : m.rules.getD k mr0 = m.rules[k] := by rw [List.getD_eq_getElem?_getD, List.getElem?_eq_getElem hlt]; rfl
              have HBF : Hid (∀ (hp : 0 < k) (X : World), Ext wr X → Calls Tryz.prog 47 #[.pointer (some ⟨b, off + (k - 1) * 5, none⟩), .pointer (some ⟨b, off + k * 5, none⟩)] X fun e w' => e = .returned (.bool (decide (cmpM (m.rules.getD (k - 1) mr0) (m.rules.getD k mr0) < 0))) ∧ Ext X w') := Lib.hid fun hp X hX => by
                have hp1 : k - 1 < m.rules.length := by omega
                obtain ⟨b', off', vr', vw', vm', e', d0, d1, d2, d3, d4, k1, k2, k3⟩ := (hrr.ext hX).at hp1
                cases e'
                have hgp : m.rules.getD (k - 1) mr0 = m.rules[k - 1] := by rw [List.getD_eq_getElem?_getD, List.getElem?_eq_getElem hp1]; rfl
                rw [hgd, hgp]
                exact l06Before_c b _ b _ _ _ _ _ X d0 d1 (hX.cell c0) (hX.cell c1) k1 (j1.ext hX)
              have HMS : Hid (mstepOk m k = (mruleOk m (m.rules.getD k mr0) && (decide (k = 0) || decide (cmpM (m.rules.getD (k - 1) mr0) (m.rules.getD k mr0) < 0)))) := rfl
              obtain ⟨r, hrk⟩ : ∃ r, m.rules[k] = r := ⟨_, rfl⟩
              rw [hgd] at HBF HMS
              rw [hrk] at c0 c4 j1 j2 j3 HBF HMS
              clear hgd hrk
              obtain ⟨A1, k1, rfl, _, _⟩ := j1.form
              obtain ⟨A2, k2, rfl, _, _⟩ := j2.form
              obtain ⟨A3, k3, rfl, _, _⟩ := j3.form
              have I1 := fun X => l00In_c r.st 0 (m.st - 1) X
              have I2 := fun X => l00In_c r.nx 0 (m.st - 1) X
              have R1 := fun X (hX : Ext wr X) => l06Row_c _ r.rd m.tp 0 (m.sy - 1) X (j1.ext hX)
              have R2 := fun X (hX : Ext wr X) => l06Row_c _ r.wr m.tp 0 (m.sy - 1) X (j2.ext hX)
              have R3 := fun X (hX : Ext wr X) => l06Row_c _ r.mv m.tp (-1) 1 X (j3.ext hX)
              have HRO : Hid (mruleOk m r = (inB r.st 0 (m.st - 1) && inB r.nx 0 (m.st - 1) && ((decide ((r.rd.length : Int) = m.tp) && r.rd.all fun z => inB z 0 (m.sy - 1)) && (decide ((r.wr.length : Int) = m.tp) && r.wr.all fun z => inB z 0 (m.sy - 1)) && (decide ((r.mv.length : Int) = m.tp) && r.mv.all fun z => inB z (-1) 1)))) := by
                unfold Hid mruleOk allIn
                simp only [Bool.and_assoc, Bool.and_left_comm]
              generalize inB r.st 0 (m.st - 1) = y1 at *
              generalize inB r.nx 0 (m.st - 1) = y2 at *
              generalize (decide ((r.rd.length : Int) = m.tp) && r.rd.all fun z => inB z 0 (m.sy - 1)) = z1 at *
              generalize (decide ((r.wr.length : Int) = m.tp) && r.wr.all fun z => inB z 0 (m.sy - 1)) = z2 at *
              generalize (decide ((r.mv.length : Int) = m.tp) && r.mv.all fun z => inB z (-1) 1) = z3 at *
              have HNO : Hid (mruleOk m r = false → K = false) := Lib.hid fun h => by rw [← HK.out]; exact multi_no hlt (by rw [HMS.out, h]; rfl)
              have g0 := cellR e0
              have g1 := cellR e1
              have g2 := cellR e2
              have f0 := cellR c0
              have f4 := cellR c4
              have E0 := Lib.hid e0
              have E1 := Lib.hid e1
              have E3 := Lib.hid e3
              have C0 := Lib.hid c0
              have C1 := Lib.hid c1
              have C2 := Lib.hid c2
              have C3 := Lib.hid c3
              have R1H := Lib.hid R1
              have R2H := Lib.hid R2
              have R3H := Lib.hid R3
              clear hr hrr hb j1 j2 j3 m0 m1 m2 m3 e0 e1 e2 c0 c1 c2 c3 c4 R1 R2 R3
              generalize r.rd.length = l1 at *
              generalize r.wr.length = l2 at *
              generalize r.mv.length = l3 at *
              cases y1 with
              | false =>
                have HE : Hid (K = false) := Lib.hid (HNO.out (by rw [HRO.out]; simp))
                go_wp2_with fail
                refine wp_region_ext (by kernel_rfl) (by kernel_rfl) ?_
                repeat (go_big_quiet_step ((go_at_call 45; first | with_reducible exact Calls.sameR (I1 _) | with_reducible exact Calls.sameR (I2 _))))
                refine wpQuiet_nil ?_
                intro w2 hxw2
                go_wp2_with fail
                go_ret
                exact ⟨by rw [HE.out]; rfl, hx.trans hxw2⟩
              | true =>
                cases y2 with
                | false =>
                  have HE : Hid (K = false) := Lib.hid (HNO.out (by rw [HRO.out]; simp))
                  go_wp2_with fail
                  refine wp_region_ext (by kernel_rfl) (by kernel_rfl) ?_
                  repeat (go_big_quiet_step ((go_at_call 45; first | with_reducible exact Calls.sameR (I1 _) | with_reducible exact Calls.sameR (I2 _))))
                  refine wpQuiet_nil ?_
                  intro w2 hxw2
                  go_wp2_with fail
                  go_ret
                  exact ⟨by rw [HE.out]; rfl, hx.trans hxw2⟩
                | true =>
                  go_wp2_with fail
                  refine wp_region_ext (by kernel_rfl) (by kernel_rfl) ?_
                  repeat (go_big_quiet_step ((go_at_call 45; first | with_reducible exact Calls.sameR (I1 _) | with_reducible exact Calls.sameR (I2 _))))
                  refine wpQuiet_nil ?_
                  intro w2 hxw2
                  have a0 := hxw2.cell E0.out
                  have a1 := hxw2.cell E1.out
                  have b1 := hxw2.cell C1.out
                  have b2 := hxw2.cell C2.out
                  have b3 := hxw2.cell C3.out
                  have R1w := fun d os => R1H.out (Sort.grow (redrawn w2 d) os) (hxw2.trans (below_regrown _ _ _))
                  have R2w := fun d os => R2H.out (Sort.grow (redrawn w2 d) os) (hxw2.trans (below_regrown _ _ _))
                  have R3w := fun d os => R3H.out (Sort.grow (redrawn w2 d) os) (hxw2.trans (below_regrown _ _ _))
                  clear g0 g1 g2 f0 f4 I1 I2 e3
                  have g0 := cellR a0
                  have g1 := cellR a1
                  have f1 := cellR b1
                  have f2 := cellR b2
                  have f3 := cellR b3
                  cases z1 with
                  | false =>
                    have HE : Hid (K = false) := Lib.hid (HNO.out (by rw [HRO.out]; simp))
                    go_wp2_with fail
                    refine wp_region_ext (by kernel_rfl) (by kernel_rfl) ?_
                    repeat (go_big_quiet_step ((go_at_call 46; first | with_reducible exact Calls.sameR (R1w _ _) | with_reducible exact Calls.sameR (R2w _ _) | with_reducible exact Calls.sameR (R3w _ _))))
                    refine wpQuiet_nil ?_
                    intro w3 hxw3
                    go_wp2_with fail
                    go_ret
                    exact ⟨by rw [HE.out]; rfl, (hx.trans hxw2).trans hxw3⟩
                  | true =>
                    cases z2 with
                    | false =>
                      have HE : Hid (K = false) := Lib.hid (HNO.out (by rw [HRO.out]; simp))
                      go_wp2_with fail
                      refine wp_region_ext (by kernel_rfl) (by kernel_rfl) ?_
                      repeat (go_big_quiet_step ((go_at_call 46; first | with_reducible exact Calls.sameR (R1w _ _) | with_reducible exact Calls.sameR (R2w _ _) | with_reducible exact Calls.sameR (R3w _ _))))
                      refine wpQuiet_nil ?_
                      intro w3 hxw3
                      go_wp2_with fail
                      go_ret
                      exact ⟨by rw [HE.out]; rfl, (hx.trans hxw2).trans hxw3⟩
                    | true =>
                      cases z3 with
                      | false =>
                        have HE : Hid (K = false) := Lib.hid (HNO.out (by rw [HRO.out]; simp))
                        go_wp2_with fail
                        refine wp_region_ext (by kernel_rfl) (by kernel_rfl) ?_
                        repeat (go_big_quiet_step ((go_at_call 46; first | with_reducible exact Calls.sameR (R1w _ _) | with_reducible exact Calls.sameR (R2w _ _) | with_reducible exact Calls.sameR (R3w _ _))))
                        refine wpQuiet_nil ?_
                        intro w3 hxw3
                        go_wp2_with fail
                        go_ret
                        exact ⟨by rw [HE.out]; rfl, (hx.trans hxw2).trans hxw3⟩
                      | true =>
                        go_wp2_with fail
                        refine wp_region_ext (by kernel_rfl) (by kernel_rfl) ?_
                        repeat (go_big_quiet_step ((go_at_call 46; first | with_reducible exact Calls.sameR (R1w _ _) | with_reducible exact Calls.sameR (R2w _ _) | with_reducible exact Calls.sameR (R3w _ _))))
                        refine wpQuiet_nil ?_
                        intro w3 hxw3
                        have HRT : Hid (mruleOk m r = true) := Lib.hid (by rw [HRO.out]; rfl)
                        have n3 := (hxw2.trans hxw3).cell E3.out
                        clear g0 g1 f1 f2 f3 R1w R2w R3w HNO HRO a0 a1 b1 b2 b3
                        have hX3 := hxw2.trans hxw3
                        have hXA := hx.trans hX3
                        by_cases h0 : k = 0
                        · subst h0
                          have HS : Hid (∀ j, j < 0 + 1 → mstepOk m j = true) := Lib.hid fun j hj => by
                            obtain rfl : j = 0 := by omega
                            rw [HMS.out, HRT.out]
                            rfl
                          clear hx hxw2 hxw3 HBF
                          go_wp2_with fail
                          go_roundw
                          case rel => exact ⟨0 + 1, by omega, by go_num, hXA, HS.out⟩
                          case measure => simp [intOf]; omega
                        · obtain ⟨j, rfl⟩ : ∃ j, k = j + 1 := ⟨k - 1, by omega⟩
                          have BF := HBF.out (by omega) w3 hX3
                          simp only [Nat.add_sub_cancel] at BF HMS
                          generalize cmpM (m.rules.getD j mr0) r = y at *
                          have hk1 : (((j + 1 : Nat) : Int) - 1) = (j : Int) := by omega
                          have hk2 : IntKind.i64.wrap (((j + 1 : Nat) : Int) - 1) = (j : Int) := by rw [hk1]; exact IntWalk.i64_in _ (by omega)
                          have hk3 : IntKind.i64.wrap (j : Int) = (j : Int) := IntWalk.i64_in _ (by omega)
                          clear HBF hx hxw2 hxw3
                          cases hy : decide (y < 0) with
                          | false =>
                            have HE : Hid (K = false) := by unfold Hid; rw [← HK.out]; exact multi_no hlt (by rw [HMS.out, hy]; simp)
                            rw [hy] at BF
                            clear hy
                            go_wp2_with fail
                            refine BF.mono ?_
                            rintro e w4 ⟨rfl, hx4⟩
                            go_wp2_with fail
                            go_ret
                            exact ⟨by rw [HE.out]; rfl, hXA.trans hx4⟩
                          | true =>
                            have HS : Hid (∀ i, i < j + 1 + 1 → mstepOk m i = true) := Lib.hid fun i hi => by
                              by_cases e : i = j + 1
                              · subst e
                                rw [HMS.out, HRT.out, hy]
                                simp
                              · exact HOK.out i (by omega)
                            rw [hy] at BF
                            clear hy
                            go_wp2_with fail
                            refine BF.mono ?_
                            rintro e w4 ⟨rfl, hx4⟩
                            go_wp2_with fail
                            go_roundw
                            case rel => exact ⟨j + 1 + 1, by omega, by go_num, hXA.trans hx4, HS.out⟩
                            case measure => simp [intOf]; omega
            · obtain rfl : k = m.rules.length := by omega
              have HE : Hid (K = true) := by
                unfold Hid
                rw [← HK.out]
                simp only [multiOk, H1.out, H2.out, H3.out, Bool.and_eq_true, decide_eq_true_eq, List.all_eq_true, List.mem_range]
                exact ⟨⟨⟨⟨trivial, trivial⟩, trivial⟩, h4⟩, fun j hj => HOK.out j hj⟩
              go_wp2_with fail
              go_ret
              exact ⟨by rw [HE.out]; rfl, hx⟩
        · have i4 : (60 : Int) < (m.rules.length : Int) := by omega
          have HE : Hid (K = false) := by unfold Hid; rw [← HK.out, multiOk, decide_eq_false h4]; simp
          go_wp2_with fail
          go_ret
          exact ⟨by rw [HE.out]; rfl, Ext.refl _⟩
end Go.Proofs.YtfghojbbofobeaaGreatDoor
end
section
set_option linter.unusedSimpArgs false
set_option linter.unusedVariables false
namespace Go.Proofs.YtfghojbbofobeaaGreatDoor
open Go Go.RowKit Go.Proofs
/-- The blocks from base on are as they were. -/
def KeepB (base : Nat) (w W : World) : Prop := w.heap.size ≤ W.heap.size ∧ ∀ k, base ≤ k → k < w.heap.size → W.heap[k]? = w.heap[k]?
theorem KeepB.refl (base : Nat) (w : World) : KeepB base w w := ⟨Nat.le_refl _, fun _ _ _ => rfl⟩
theorem KeepB.trans {base : Nat} {a b c : World} (h : KeepB base a b) (k : KeepB base b c) : KeepB base a c :=
  ⟨Nat.le_trans h.1 k.1, fun i hi hl => (k.2 i hi (by have := h.1; omega)).trans (h.2 i hi hl)⟩
theorem KeepB.setCell {base : Nat} (w : World) {p : Addr} (hp : p.block < base) (v : Value) : KeepB base w (w.setCell p v) := by
  refine ⟨by simp [World.setCell], fun k hk hl => Below.heap_setCell w p v k ?_⟩
  omega
theorem KeepB.cell {base : Nat} {w W : World} (h : KeepB base w W) {p : Addr} {v : Value} (hb : base ≤ p.block) (hp : w.cell? p = some v) : W.cell? p = some v := by
  have hl := World.block_lt_of_cell? w p hp
  have e := h.2 p.block hb hl
  rw [← hp]
  unfold World.cell?
  rw [e]
end Go.Proofs.YtfghojbbofobeaaGreatDoor
end
section
set_option linter.unusedVariables false
set_option linter.unusedSimpArgs false
namespace Go.Proofs.YtfghojbbofobeaaGreatDoor
open Go Go.RowKit Go.Proofs Go.Maps
set_option maxHeartbeats 400000
/-- The cells of tapes, whose sides are rows of their own. -/
def TCells (base : Nat) (w : World) (cl : List Value) (ts : List TapeD) : Prop :=
  cl.length = ts.length * 2 ∧ ∀ i, (h : i < ts.length) → ∃ lv rv, cl[i * 2]? = some lv ∧ cl[i * 2 + 1]? = some rv ∧ OwnInts base w lv ts[i].l ∧ OwnInts base w rv ts[i].r
theorem TCells.nil (base : Nat) (w : World) : TCells base w [] [] := ⟨rfl, fun i h => by simp at h⟩
theorem TCells.snoc {base : Nat} {w : World} {cl : List Value} {ts : List TapeD} {t : TapeD} {lv rv : Value} (h : TCells base w cl ts) (h1 : OwnInts base w lv t.l) (h2 : OwnInts base w rv t.r) : TCells base w (cl ++ [lv, rv]) (ts ++ [t]) := by
  obtain ⟨a, b⟩ := h
  refine ⟨by simp [a]; omega, fun i hi => ?_⟩
  by_cases hlt : i < ts.length
  · obtain ⟨x, y, c0, c1, o⟩ := b i hlt
    refine ⟨x, y, by rw [List.getElem?_append_left (by omega), c0], by rw [List.getElem?_append_left (by omega), c1], ?_⟩
    rw [List.getElem_append_left hlt]
    exact o
  · obtain rfl : i = ts.length := by simp at hi; omega
    refine ⟨lv, rv, by rw [List.getElem?_append_right (by omega)]; simp [a], by rw [List.getElem?_append_right (by omega)]; simp [a], ?_⟩
    rw [List.getElem_append_right (by omega)]
    simpa using ⟨h1, h2⟩
theorem TCells.ext {base : Nat} {w w' : World} {cl : List Value} {ts : List TapeD} (h : TCells base w cl ts) (he : Ext w w') : TCells base w' cl ts :=
  ⟨h.1, fun i hi => by
    obtain ⟨x, y, c0, c1, o1, o2⟩ := h.2 i hi
    exact ⟨x, y, c0, c1, OwnInts.ext o1 he, OwnInts.ext o2 he⟩⟩
theorem TCells.same {base : Nat} {w w' : World} {cl : List Value} {ts : List TapeD} (h : TCells base w cl ts) (hs : ∀ g cs, Blk w g 2 cs → w'.heap[g]? = w.heap[g]?) : TCells base w' cl ts := by
  have hi : ∀ {u : Value} {zs : List Int}, OwnInts base w u zs → OwnInts base w' u zs := fun {u zs} o => own_same o (fun g hg => by
    rcases o.2 with ⟨rfl, _⟩ | ⟨g', cap, cur, rfl, _, hh, _⟩
    · simp [Value.ownBlock] at hg
    · simp [Value.ownBlock] at hg
      subst hg
      exact hs _ _ hh)
  refine ⟨h.1, fun i hi' => ?_⟩
  obtain ⟨x, y, c0, c1, o1, o2⟩ := h.2 i hi'
  exact ⟨x, y, c0, c1, hi o1, hi o2⟩
/-- Tapes in a row of their own. -/
def OwnT (base : Nat) (w : World) (v : Value) (ts : List TapeD) : Prop := ∃ cl, w.ownsRow base 110 2 v ts.length cl ∧ TCells base w cl ts
theorem OwnT.ext {base : Nat} {w w' : World} {v : Value} {ts : List TapeD} (h : OwnT base w v ts) (he : Ext w w') : OwnT base w' v ts := by
  obtain ⟨cl, a, b⟩ := h
  exact ⟨cl, ownsRow_ext a he, b.ext he⟩
theorem OwnT.form {base : Nat} {w : World} {v : Value} {ts : List TapeD} (h : OwnT base w v ts) : ∃ A c, v = .slice A ts.length c ∧ ts.length ≤ c ∧ c ≤ 9223372036854775807 := by
  obtain ⟨cl, h1, h2⟩ := h
  obtain ⟨A, c, e, a, b, _⟩ := (ownsRow_row h1).form
  exact ⟨A, c, e, a, b⟩
theorem OwnT.far {base : Nat} {w : World} {v : Value} {ts : List TapeD} (h : OwnT base w v ts) {g : Nat} {t : TypeId} {cs : Array Value} (hb : Blk w g t cs) (h1 : t ≠ 110) (h2 : t ≠ 2) (i : Nat) (u : Value) : OwnT base (w.setCell ⟨g, i, none⟩ u) v ts := by
  obtain ⟨cl, ho, hc⟩ := h
  exact ⟨cl, own_kept ho (grownBy_setCell w ⟨g, i, none⟩ u) (blk_ne_row hb ho h1), hc.same fun q cs' hq => Below.heap_setCell w _ u q (by exact blk_ne hq hb (fun e => h2 e.symm))⟩
theorem OwnT.tapes {base : Nat} {w : World} {v : Value} {ts : List TapeD} (h : OwnT base w v ts) : Tapes w v ts := by
  obtain ⟨cl, h1, h2⟩ := h
  obtain ⟨A, c, rfl, a, b, hr⟩ := ownsRow_row h1
  refine ⟨A, c, rfl, a, b, fun hn => ?_⟩
  obtain ⟨g, off, rfl, hc⟩ := hr.2 hn
  refine ⟨g, off, rfl, fun i hi => ?_⟩
  obtain ⟨x, y, c0, c1, o1, o2⟩ := h2.2 i hi
  have hl := h2.1
  exact ⟨x, y, (hc _ (by omega)).trans c0, by rw [Nat.add_assoc]; exact (hc _ (by omega)).trans c1, o1.ints, o2.ints⟩
theorem tapeInfoS : (Tryz.prog.info? 110).map (fun i => (i.zero, i.size, i.bytes)) = some (some (.agg #[.slice none 0 0, .slice none 0 0]), 2, 48) := by kernel_rfl
end Go.Proofs.YtfghojbbofobeaaGreatDoor
end
