/- Contract of the program's run of a machine with several tapes: the tapes as a block that is known whole.
The walk of the law on two machines in sequence. -/
import Derived.Test.YtkbpchdncljlbaaU22
import Derived.Test.YtkbpchdncljlbaaU27
import Derived.Test.YtkbpchdncljlbaaU39
import Derived.Test.YtkbpchdncljlbaaU37
import Derived.Test.YtkbpchdncljlbaaU36
section
set_option linter.unusedVariables false
set_option linter.unusedSimpArgs false
namespace Go.Proofs.Ytkbpchdncljlbaa
open Go Go.RowKit Go.Proofs Go.Maps
set_option maxHeartbeats 400000
theorem TapB.ext {w w' : World} {g : Nat} {ts : List TapeD} (h : TapB w g ts) (he : Ext w w') : TapB w' g ts := by
  obtain ⟨cs, hb, hc⟩ := h
  exact ⟨cs, hb.ext he, fun i hi => by
    obtain ⟨lv, rv, e1, e2, s1, s2, r⟩ := hc i hi
    exact ⟨lv, rv, e1, e2, s1.ext he, s2.ext he, r⟩⟩
theorem OwnT.tapF {base : Nat} {w : World} {A : Option Addr} {c : Nat} {ts : List TapeD} {m : MultiD} (h : OwnT base w (.slice A ts.length c) ts) (h0 : 0 < ts.length) (hok : ts.all (tapeOk m) = true) : ∃ b, A = some ⟨b, 0, none⟩ ∧ TapF w b 0 ts ∧ ts.length ≤ c ∧ c ≤ 9223372036854775807 := by
  obtain ⟨_, c', e, c1, c2⟩ := h.form
  cases e
  obtain ⟨cl, h1, h2⟩ := h
  obtain ⟨g, rfl, _, _⟩ := own_at h1 h0
  refine ⟨g, rfl, fun i hi => ?_, c1, c2⟩
  obtain ⟨lv, rv, e1, e2, o1, o2⟩ := h2.2 i hi
  have ho := (tape_len (List.all_eq_true.1 hok _ (List.getElem_mem hi))).1
  simp only [roomT, Bool.and_eq_true, decide_eq_true_eq] at ho
  exact ⟨lv, rv, by rw [Nat.zero_add]; exact (World.ownsRow.cellAt h1 _ (by omega)).trans e1, by rw [Nat.zero_add]; exact (World.ownsRow.cellAt h1 _ (by omega)).trans e2, o1.ints, o2.ints, o1.flat, o2.flat, by omega, by omega⟩
/-- What a run of a machine with several tapes gives. -/
def RunRB (rs : List MRuleD) (c : MConfD) (N : Nat) (e : Ending) (w' : World) : Prop :=
  (∃ i g cap, MEnd rs c N i ∧ e = .returned (.tuple #[.agg #[.int .i64 (cfgM rs c i).q, .slice (some ⟨g, 0, none⟩) c.tapes.length cap], .int .i64 (i : Int), .bool (lookM rs (cfgM rs c i)).isNone, .int .i64 0]) ∧
    c.tapes.length ≤ cap ∧ cap ≤ 9223372036854775807 ∧ TapB w' g (cfgM rs c i).tapes) ∨
  (∃ i, MFull rs c N i ∧ e = .returned (.tuple #[.agg #[.int .i64 0, .slice none 0 0], .int .i64 0, .bool false, .int .i64 5]))
set_option maxRecDepth 20000 in
set_option maxHeartbeats 4000000 in
theorem RunMultiB_c (m : MultiD) (mv : Value) (c : MConfD) (b off cap N : Nat) (w : World) (hM : Mult w mv m) (hm : multiOk m = true) (hq : inB c.q 0 (m.st - 1) = true) (hn : (c.tapes.length : Int) = m.tp) (hts : c.tapes.all (tapeOk m) = true)
    (hT : TapF w b off c.tapes) (h1 : c.tapes.length ≤ cap) (h2 : cap ≤ 9223372036854775807) (hN1 : 1 ≤ N) (hN2 : N ≤ 20000) :
    Calls Try.prog 9 #[mv, .agg #[.int .i64 c.q, .slice (some ⟨b, off, none⟩) c.tapes.length cap], .int .i64 (N : Int)] w fun e w' => RunRB m.rules c N e w' ∧ Ext w w' := by
  have hG := good_of_ok hm hq hn hts
  have hroom := room_of_ok hts
  obtain ⟨⟨tp1, tp2⟩, _⟩ := multi_all hm
  have hpos : 0 < c.tapes.length := by omega
  have hn3 : c.tapes.length ≤ 1000 := by omega
  obtain ⟨rv, rfl, hR⟩ := id hM
  obtain ⟨A, cA, rfl, _, _⟩ := hR.form
  obtain ⟨V, hV⟩ : ∃ V, V = ((w.alloc (.cells #[.int .i64 m.tp, .int .i64 m.sy, .int .i64 m.st, .slice A m.rules.length cA] 29)).alloc (.cells #[.int .i64 c.q, .slice (some ⟨b, off, none⟩) c.tapes.length cap] 34)).alloc (.cells #[.int .i64 0, .slice none 0 0] 34) := ⟨_, rfl⟩
  have hX : Ext w V := by rw [hV]; exact ((Ext.alloc _ _).trans (Ext.alloc _ _)).trans (Ext.alloc _ _)
  obtain ⟨g, hg⟩ : ∃ g, w.heap.size = g := ⟨_, rfl⟩
  have bM : Blk V g 29 #[.int .i64 m.tp, .int .i64 m.sy, .int .i64 m.st, .slice A m.rules.length cA] := by rw [hV]; exact ((Blk.new _ _ _ _ hg).alloc _).alloc _
  have bC : Blk V (g + 1) 34 #[.int .i64 c.q, .slice (some ⟨b, off, none⟩) c.tapes.length cap] := by rw [hV]; exact (Blk.new _ _ _ _ (by simp [hg])).alloc _
  have bO : Blk V (g + 1 + 1) 34 #[.int .i64 0, .slice none 0 0] := by rw [hV]; exact Blk.new _ _ _ _ (by simp [hg])
  have m0 := bM.cell 0
  have m1 := bM.cell 1
  have m2 := bM.cell 2
  have m3 := bM.cell 3
  have c0 := bC.cell 0
  have c1 := bC.cell 1
  simp only [List.getElem?_toArray, List.getElem?_cons_zero, List.getElem?_cons_succ] at m0 m1 m2 m3 c0 c1
  have VC := ValidMultiConfig_c m _ _ c V (hM.ext hX) hm (TapF.tapes (hT.ext hX) h1 h2) hq hn
  rw [hts] at VC
  have BO := fun w => budgetOk_c (N : Int) w
  have hb : inB (N : Int) 1 20000 = true := inB_iff.2 ⟨by omega, by omega⟩
  rw [hb] at BO
  have HT := Lib.hid hT
  clear hT hts
  go_enter Try.func9, Try.ntmps9
  go_wp2_with fail
  try rw [← hV]
  try rw [hg]
  clear hV
  refine VC.mono ?_
  rintro e w1 ⟨rfl, hx1⟩
  go_wp2_with fail
  refine (BO w1).mono ?_
  rintro e _ ⟨rfl, rfl⟩
  have hX1 := hX.trans hx1
  have d0 := (bC.ext hx1).cell 0
  have d1 := (bC.ext hx1).cell 1
  simp only [List.getElem?_toArray, List.getElem?_cons_zero, List.getElem?_cons_succ] at d0 d1
  have CM := copyMultiConfig_c w1 c b off cap h1 h2 hn3 (HT.out.ext hX1)
  clear m0 m1 m2 m3 c0 c1 VC BO
  go_wp2_with fail
  refine CM.mono ?_
  rintro e w2 ⟨v, cl, rfl, hC, hx2⟩
  obtain ⟨gT, cp, cs, rfl, hAt⟩ := hC.at hx2 hpos
  obtain ⟨W, hW⟩ : ∃ W, W = w2.alloc (.cells #[.int .i64 c.q, .slice (some ⟨gT, 0, none⟩) c.tapes.length cp] 34) := ⟨_, rfl⟩
  have hXW : Ext w2 W := by rw [hW]; exact Ext.alloc _ _
  rw [← hW] at hAt
  obtain ⟨bc, hbc⟩ : ∃ bc, w2.heap.size = bc := ⟨_, rfl⟩
  rw [hbc] at hAt
  have hx12 := hx1.trans (hx2.trans hXW)
  have bM2 := bM.ext hx12
  have bO2 := bO.ext hx12
  have bM3 := bM.ext (hx1.trans hx2)
  have m0 := bM3.cell 0
  have m1 := bM3.cell 1
  have m2 := bM3.cell 2
  have m3 := bM3.cell 3
  have hgl : g < w2.heap.size := bM3.lt
  have hgl2 : g < bc := by rw [← hbc]; exact hgl
  simp only [List.getElem?_toArray, List.getElem?_cons_zero, List.getElem?_cons_succ] at m0 m1 m2 m3
  have RM := runMulti_c w1 W (fun k => k < w1.heap.size) m (.agg #[.int .i64 m.tp, .int .i64 m.sy, .int .i64 m.st, .slice A m.rules.length cA]) c bc gT cp N cs #[] (fun _ _ _ _ => True) ⟨_, rfl, (hR.ext hX1)⟩ hm hG hroom hAt (by omega)
    (fun _ _ _ _ _ => trivial) (fun _ _ _ _ _ _ _ => trivial) (fun hi => visNone _ _ _ _ _ _ _ _)
  have hXall := hX.trans hx12
  have hgO : w.heap.size ≤ g + 1 + 1 := by omega
  have hO1 : g + 1 + 1 < w1.heap.size := (bO.ext hx1).lt
  have HX1 := Lib.hid hX1
  have HBO := Lib.hid (bO.ext hx1)
  clear hC hAt CM d0 d1 HT hx1 hx2 hX bM bC bO hM hR hG hroom hXW bO2
  go_wp2_with fail
  try rw [← hW]
  try rw [hbc]
  clear hW
  refine RM.mono ?_
  rintro e w3 ⟨hi, ⟨i, K', cs', hE, rfl, hA3, _⟩ | ⟨i, K', hF, rfl, hx3, _⟩⟩
  · have hT3 := hA3.tapB (hE.runs.room i (Nat.le_refl _))
    have hx3 := hA3.ext0
    have hcp := hA3.cap1
    have hcp2 := hA3.cap2
    have bO3 := HBO.out.ext hx3
    have d0 := hA3.blk.cell 0
    have d1 := hA3.blk.cell 1
    simp only [List.getElem?_toArray, List.getElem?_cons_zero, List.getElem?_cons_succ] at d0 d1
    have hne : bc ≠ g + 1 + 1 := by have := hA3.blo; omega
    rw [cfgM_tapes] at d1 hcp
    have ob := bO3.cell
    have of_ := bO3.frozen
    have HE := Lib.hid hE
    have ht0 := hT3
    obtain ⟨cc, hcc⟩ : ∃ cc, cfgM m.rules c i = cc := ⟨_, rfl⟩
    rw [hcc] at d0 hT3
    have HCC := Lib.hid hcc
    have hX3 : Ext w w3 := HX1.out.trans hx3
    obtain ⟨q, hqq⟩ : ∃ q, cc.q = q := ⟨_, rfl⟩
    rw [hqq] at d0
    have HQQ := Lib.hid hqq
    obtain ⟨n, hnn⟩ : ∃ n, c.tapes.length = n := ⟨_, rfl⟩
    have HNN := Lib.hid hnn
    rw [hnn] at d1 hcp
    obtain ⟨hl, hhl⟩ : ∃ b, (lookM m.rules (cfgM m.rules c i)).isNone = b := ⟨_, rfl⟩
    have HHL := Lib.hid hhl
    rw [hhl]
    have HT : Hid (TapB ((w3.setCell ⟨g + 1 + 1, 0, none⟩ (.int .i64 q)).setCell ⟨g + 1 + 1, 1, none⟩ (.slice (some ⟨gT, 0, none⟩) n cp)) gT cc.tapes) := Lib.hid (by
      exact (hT3.far bO3 0 _).far (bO3.set_ 0 _) 1 _)
    have HXX := Lib.hid ((hX3.setCell (p := ⟨g + 1 + 1, 0, none⟩) hgO (.int .i64 q)).setCell (p := ⟨g + 1 + 1, 1, none⟩) hgO (.slice (some ⟨gT, 0, none⟩) n cp))
    clear hE hA3 hT3 hcc ht0 hqq hnn hhl RM HBO hx3 hX3
    go_wp2_with fail
    refine bodyPost_ret (v := .tuple #[.agg #[.int .i64 q, .slice (some ⟨gT, 0, none⟩) n cp], .int .i64 (i : Int), .bool hl, .int .i64 0]) (by simp [results, Try.results9, go_sem, ob]) rfl ⟨.inl ⟨i, gT, cp, HE.out, ?_, by rw [HNN.out]; exact hcp, hcp2, by rw [HCC.out]; exact HT.out⟩, HXX.out⟩
    rw [HCC.out, HQQ.out, HNN.out, ← HCC.out, HHL.out]
  · have bO3 := HBO.out.ext hx3
    have ob := bO3.cell
    have of_ := bO3.frozen
    have HXX := Lib.hid (((HX1.out.trans hx3).setCell (p := ⟨g + 1 + 1, 0, none⟩) hgO (.int .i64 0)).setCell (p := ⟨g + 1 + 1, 1, none⟩) hgO (.slice none 0 0))
    have HF := Lib.hid hF
    clear hF RM HBO hx3
    go_wp2_with fail
    exact bodyPost_ret (v := .tuple #[.agg #[.int .i64 0, .slice none 0 0], .int .i64 0, .bool false, .int .i64 5]) (by simp [results, Try.results9, go_sem, ob]) rfl ⟨.inr ⟨i, HF.out, rfl⟩, HXX.out⟩
end Go.Proofs.Ytkbpchdncljlbaa
end
section
set_option linter.unusedVariables false
set_option linter.unusedSimpArgs false
namespace Go.Proofs.Ytkbpchdncljlbaa
open Go Go.RowKit Go.Proofs Go.Maps
set_option maxHeartbeats 400000
theorem tapeOk_sy {m m' : MultiD} (h : m.sy = m'.sy) {ts : List TapeD} (ht : ts.all (tapeOk m) = true) : ts.all (tapeOk m') = true := by
  have e : tapeOk m' = tapeOk m := by
    funext t
    unfold tapeOk
    rw [h]
  rw [e]
  exact ht
set_option maxRecDepth 40000 in
set_option maxHeartbeats 16000000 in
theorem law17_c (v1 v2 : Value) (bs1 bs2 : List Int) (w : World) (h1 : Bytes w v1 bs1) (h2 : Bytes w v2 bs2) :
    Calls Try.prog 4 #[v1, v2] w fun e w' => e = .returned (.bool true) ∧ Ext w w' := by
  obtain ⟨A1, k1, rfl, _, _, _⟩ := h1.1.form
  obtain ⟨A2, k2, rfl, _, _, _⟩ := h2.1.form
  go_enter Try.func4, Try.ntmps4
  go_wp2_with fail
  refine (b10Long_c _ bs1 w h1).mono ?_
  rintro e w' ⟨rfl, rfl⟩
  by_cases l1 : 1048576 < bs1.length
  · rw [decide_eq_true l1]
    go_wp2_with fail
    go_ret
    exact ⟨rfl, Ext.refl _⟩
  rw [decide_eq_false l1]
  go_wp2_with fail
  refine (b10Long_c _ bs2 w h2).mono ?_
  rintro e w' ⟨rfl, rfl⟩
  by_cases l2 : 1048576 < bs2.length
  · rw [decide_eq_true l2]
    go_wp2_with fail
    go_ret
    exact ⟨rfl, Ext.refl _⟩
  rw [decide_eq_false l2]
  go_wp2_with fail
  refine (B10Multi_c _ bs1 w h1).mono ?_
  rintro e w1 ⟨⟨a, c, Aa, ca, Ac, cc, rfl, MA⟩, hx1⟩
  obtain ⟨⟨at1, at2⟩, ⟨ay1, ay2⟩, ⟨as1, as2⟩, al, _⟩ := multi_all MA.ok
  obtain ⟨bt, rfl, TC, hcc1, hcc2⟩ := MA.ot.tapF (by have := MA.len; omega) MA.tapes
  obtain ⟨g5, hg5⟩ : ∃ g, w1.heap.size = g := ⟨_, rfl⟩
  obtain ⟨W1, hW1⟩ : ∃ W, W = (w1.alloc (.cells #[.int .i64 a.tp, .int .i64 a.sy, .int .i64 a.st, .slice Aa a.rules.length ca] 29)).alloc (.cells #[.int .i64 c.q, .slice (some ⟨bt, 0, none⟩) c.tapes.length cc] 34) := ⟨_, rfl⟩
  have e1 : Ext w1 W1 := by rw [hW1]; exact (Ext.alloc _ _).trans (Ext.alloc _ _)
  have bA : Blk W1 g5 29 #[.int .i64 a.tp, .int .i64 a.sy, .int .i64 a.st, .slice Aa a.rules.length ca] := by rw [hW1]; exact (Blk.new _ _ _ _ hg5).alloc _
  have bC : Blk W1 (g5 + 1) 34 #[.int .i64 c.q, .slice (some ⟨bt, 0, none⟩) c.tapes.length cc] := by rw [hW1]; exact Blk.new _ _ _ _ (by simp [hg5])
  have HMA := Lib.hid MA
  have HTC := Lib.hid TC
  have HX1 : Hid (Ext w W1) := Lib.hid (hx1.trans e1)
  have BM2 := B10Multi_c _ bs2 W1 (h2.ext (hx1.trans e1))
  clear MA TC h1 h2 l1 l2 hx1
  go_wp2_with fail
  try rw [← hW1]
  try rw [hg5]
  clear hW1
  refine BM2.mono ?_
  rintro e w2 ⟨⟨b, d, Ab, cb, Ad, cd, rfl, MB⟩, hx2⟩
  obtain ⟨_, _, ⟨bst1, bst2⟩, bl, _⟩ := multi_all MB.ok
  obtain ⟨g7, hg7⟩ : ∃ g, w2.heap.size = g := ⟨_, rfl⟩
  obtain ⟨W2, hW2⟩ : ∃ W, W = (w2.alloc (.cells #[.int .i64 b.tp, .int .i64 b.sy, .int .i64 b.st, .slice Ab b.rules.length cb] 29)).alloc (.cells #[.int .i64 d.q, .slice Ad d.tapes.length cd] 34) := ⟨_, rfl⟩
  have e2 : Ext w2 W2 := by rw [hW2]; exact (Ext.alloc _ _).trans (Ext.alloc _ _)
  have bB2 : Blk W2 g7 29 #[.int .i64 b.tp, .int .i64 b.sy, .int .i64 b.st, .slice Ab b.rules.length cb] := by rw [hW2]; exact (Blk.new _ _ _ _ hg7).alloc _
  have hx12 := hx2.trans e2
  have bA2 := bA.ext hx12
  have bC2 := bC.ext hx12
  have HB2 := Lib.hid bB2
  have HA2 := Lib.hid bA2
  have HC2 := Lib.hid bC2
  have HX2 : Hid (Ext w W2) := Lib.hid (HX1.out.trans hx12)
  have HTC2 : Hid (TapF W2 bt 0 c.tapes) := Lib.hid (HTC.out.ext (e1.trans hx12))
  have HMB := Lib.hid MB
  have HMRA : Hid (OwnMR w.heap.size W2 (.slice Aa a.rules.length ca) a.rules) := Lib.hid (HMA.out.mr.ext (e1.trans hx12))
  have HMRB : Hid (OwnMR W1.heap.size W2 (.slice Ab b.rules.length cb) b.rules) := Lib.hid (MB.mr.ext e2)
  have SQ := SequenceMulti_c a b _ _ _ _ W2 HMRA.out HMRB.out HMA.out.ok MB.ok
  have a0 : W2.cell? ⟨g5, 0, none⟩ = some (.int .i64 a.tp) := bA2.cell 0
  have a1 : W2.cell? ⟨g5, 1, none⟩ = some (.int .i64 a.sy) := bA2.cell 1
  have a2 : W2.cell? ⟨g5, 2, none⟩ = some (.int .i64 a.st) := bA2.cell 2
  have a3 : W2.cell? ⟨g5, 3, none⟩ = some (.slice Aa a.rules.length ca) := bA2.cell 3
  have b0 : W2.cell? ⟨g7, 0, none⟩ = some (.int .i64 b.tp) := bB2.cell 0
  have b1 : W2.cell? ⟨g7, 1, none⟩ = some (.int .i64 b.sy) := bB2.cell 1
  have b2 : W2.cell? ⟨g7, 2, none⟩ = some (.int .i64 b.st) := bB2.cell 2
  have b3 : W2.cell? ⟨g7, 3, none⟩ = some (.slice Ab b.rules.length cb) := bB2.cell 3
  clear MB BM2 bA bC bA2 bC2 bB2 hx2 hx12 e1 e2 hg5
  go_upto_region 5 with fail
  try rw [← hW2]
  try rw [hg7]
  clear hW2 hg7
  go_wp2_with fail
  refine SQ.mono ?_
  rintro e w3 ⟨hs, hx3⟩
  have SP := fun (hbad : a.tp = b.tp → a.sy = b.sy → 16 < a.st + b.st ∨ 60 < (preL a b).length) W (h : Ext w3 W) => specSequence_c a b _ _ _ _ W (HMRA.out.ext (hx3.trans h)) (HMRB.out.ext (hx3.trans h)) HMA.out.ok HMB.out.ok hbad
  clear SQ a0 a1 a2 a3 b0 b1 b2 b3
  rcases hs with ⟨hne, rfl⟩ | ⟨htp, hsy, hbd, rfl⟩ | ⟨s, v, hs, hstp, hssy, rfl, hms⟩
  · have SP2 := SP (fun x y => absurd ⟨x, y⟩ hne)
    simp only [if_neg hne] at SP2
    obtain ⟨g9, hg9⟩ : ∃ g, w3.heap.size = g := ⟨_, rfl⟩
    obtain ⟨W3, hW3⟩ : ∃ W, W = w3.alloc (.cells #[.int .i64 0, .int .i64 0, .int .i64 0, .slice none 0 0] 29) := ⟨_, rfl⟩
    have X3 : Ext W2 W3 := by rw [hW3]; exact hx3.trans (Ext.alloc _ _)
    have Bg9 : Blk W3 g9 29 #[.int .i64 0, .int .i64 0, .int .i64 0, .slice none 0 0] := by rw [hW3]; exact Blk.new _ _ _ _ hg9
    have a0 : W3.cell? ⟨g5, 0, none⟩ = some (.int .i64 a.tp) := (HA2.out.ext X3).cell 0
    have a1 : W3.cell? ⟨g5, 1, none⟩ = some (.int .i64 a.sy) := (HA2.out.ext X3).cell 1
    have a2 : W3.cell? ⟨g5, 2, none⟩ = some (.int .i64 a.st) := (HA2.out.ext X3).cell 2
    have a3 : W3.cell? ⟨g5, 3, none⟩ = some (.slice Aa a.rules.length ca) := (HA2.out.ext X3).cell 3
    have b0 : W3.cell? ⟨g7, 0, none⟩ = some (.int .i64 b.tp) := (HB2.out.ext X3).cell 0
    have b1 : W3.cell? ⟨g7, 1, none⟩ = some (.int .i64 b.sy) := (HB2.out.ext X3).cell 1
    have b2 : W3.cell? ⟨g7, 2, none⟩ = some (.int .i64 b.st) := (HB2.out.ext X3).cell 2
    have b3 : W3.cell? ⟨g7, 3, none⟩ = some (.slice Ab b.rules.length cb) := (HB2.out.ext X3).cell 3
    have SP3 := SP2 W3 (by rw [hW3]; exact Ext.alloc _ _)
    clear SP SP2 hne
    go_upto_region 7 with fail
    try rw [← hW3]
    try rw [hg9]
    clear hW3 hg9
    go_wp2_with fail
    refine SP3.mono ?_
    rintro e w4 ⟨rfl, hx4⟩
    have HX4 : Hid (Ext w w4) := Lib.hid (HX2.out.trans (X3.trans hx4))
    clear SP3 hx4
    go_wp2_with fail
    go_ret
    exact ⟨rfl, HX4.out.trans (Ext.alloc _ _)⟩
  · have SP2 := SP (fun _ _ => hbd)
    simp only [if_pos (show a.tp = b.tp ∧ a.sy = b.sy from ⟨htp, hsy⟩)] at SP2
    obtain ⟨g9, hg9⟩ : ∃ g, w3.heap.size = g := ⟨_, rfl⟩
    obtain ⟨W3, hW3⟩ : ∃ W, W = w3.alloc (.cells #[.int .i64 0, .int .i64 0, .int .i64 0, .slice none 0 0] 29) := ⟨_, rfl⟩
    have X3 : Ext W2 W3 := by rw [hW3]; exact hx3.trans (Ext.alloc _ _)
    have Bg9 : Blk W3 g9 29 #[.int .i64 0, .int .i64 0, .int .i64 0, .slice none 0 0] := by rw [hW3]; exact Blk.new _ _ _ _ hg9
    have a0 : W3.cell? ⟨g5, 0, none⟩ = some (.int .i64 a.tp) := (HA2.out.ext X3).cell 0
    have a1 : W3.cell? ⟨g5, 1, none⟩ = some (.int .i64 a.sy) := (HA2.out.ext X3).cell 1
    have a2 : W3.cell? ⟨g5, 2, none⟩ = some (.int .i64 a.st) := (HA2.out.ext X3).cell 2
    have a3 : W3.cell? ⟨g5, 3, none⟩ = some (.slice Aa a.rules.length ca) := (HA2.out.ext X3).cell 3
    have b0 : W3.cell? ⟨g7, 0, none⟩ = some (.int .i64 b.tp) := (HB2.out.ext X3).cell 0
    have b1 : W3.cell? ⟨g7, 1, none⟩ = some (.int .i64 b.sy) := (HB2.out.ext X3).cell 1
    have b2 : W3.cell? ⟨g7, 2, none⟩ = some (.int .i64 b.st) := (HB2.out.ext X3).cell 2
    have b3 : W3.cell? ⟨g7, 3, none⟩ = some (.slice Ab b.rules.length cb) := (HB2.out.ext X3).cell 3
    have SP3 := SP2 W3 (by rw [hW3]; exact Ext.alloc _ _)
    clear SP SP2 htp hsy hbd
    go_upto_region 7 with fail
    try rw [← hW3]
    try rw [hg9]
    clear hW3 hg9
    go_wp2_with fail
    refine SP3.mono ?_
    rintro e w4 ⟨rfl, hx4⟩
    have HX4 : Hid (Ext w w4) := Lib.hid (HX2.out.trans (X3.trans hx4))
    clear SP3 hx4
    go_wp2_with fail
    go_ret
    exact ⟨rfl, HX4.out.trans (Ext.alloc _ _)⟩
  · clear SP
    obtain ⟨As, cs, rfl, _, _⟩ := id hms.form
    obtain ⟨g9, hg9⟩ : ∃ g, w3.heap.size = g := ⟨_, rfl⟩
    obtain ⟨W3, hW3⟩ : ∃ W, W = w3.alloc (.cells #[.int .i64 s.tp, .int .i64 s.sy, .int .i64 s.st, .slice As s.rules.length cs] 29) := ⟨_, rfl⟩
    have X3 : Ext W2 W3 := by rw [hW3]; exact hx3.trans (Ext.alloc _ _)
    have Bg9 : Blk W3 g9 29 #[.int .i64 s.tp, .int .i64 s.sy, .int .i64 s.st, .slice As s.rules.length cs] := by rw [hW3]; exact Blk.new _ _ _ _ hg9
    have a0 : W3.cell? ⟨g5, 0, none⟩ = some (.int .i64 a.tp) := (HA2.out.ext X3).cell 0
    have a1 : W3.cell? ⟨g5, 1, none⟩ = some (.int .i64 a.sy) := (HA2.out.ext X3).cell 1
    have a2 : W3.cell? ⟨g5, 2, none⟩ = some (.int .i64 a.st) := (HA2.out.ext X3).cell 2
    have a3 : W3.cell? ⟨g5, 3, none⟩ = some (.slice Aa a.rules.length ca) := (HA2.out.ext X3).cell 3
    have c0 : W3.cell? ⟨g5 + 1, 0, none⟩ = some (.int .i64 c.q) := (HC2.out.ext X3).cell 0
    have c1 : W3.cell? ⟨g5 + 1, 1, none⟩ = some (.slice (some ⟨bt, 0, none⟩) c.tapes.length cc) := (HC2.out.ext X3).cell 1
    have HS := Lib.hid hs
    have HST := Lib.hid (⟨hstp, hssy⟩ : s.tp = a.tp ∧ s.sy = a.sy)
    have HMS : Hid (MRules W3 (.slice As s.rules.length cs) s.rules) := Lib.hid (hms.ext (by rw [hW3]; exact Ext.alloc _ _))
    have HB9 := Lib.hid Bg9
    have R1 := RunMultiB_c a _ c bt 0 cc 60 W3 ⟨_, rfl, (HMRA.out.ext X3).rules⟩ HMA.out.ok HMA.out.q HMA.out.len HMA.out.tapes (HTC2.out.ext X3) hcc1 hcc2 (by omega) (by omega)
    rw [show ((60 : Nat) : Int) = 60 from rfl] at R1
    clear Bg9 hs hstp hssy hms
    go_upto_region 9 with fail
    try rw [← hW3]
    try rw [hg9]
    clear hW3 hg9
    go_wp2_with fail
    refine R1.mono ?_
    rintro e w4 ⟨hr, hx4⟩
    have hx4' := X3.trans hx4
    clear R1 a0 a1 a2 a3 c0 c1
    have RS := fun W (h : Ext w4 W) => RunMultiS_c a _ _ c 60 W ⟨_, rfl, (HMRA.out.ext (hx4'.trans h)).rules⟩ HMA.out.ok HMA.out.q HMA.out.len HMA.out.tapes ((HTC2.out.ext (hx4'.trans h)).tapes hcc1 hcc2) (by omega) (by omega)
    rw [show ((60 : Nat) : Int) = 60 from rfl] at RS
    rcases hr with ⟨n, g, cap, hE, rfl, hc1, hc2, hT⟩ | ⟨n, hF, rfl⟩
    · obtain ⟨hl, hhl⟩ : ∃ x, (lookM a.rules (cfgM a.rules c n)).isNone = x := ⟨_, rfl⟩
      rw [hhl]
      obtain ⟨q1, hq1⟩ : ∃ q, (cfgM a.rules c n).q = q := ⟨_, rfl⟩
      rw [hq1]
      have HHL := Lib.hid hhl
      have HQ1 := Lib.hid hq1
      have HE := Lib.hid hE
      have HT := Lib.hid hT
      cases hl with
      | false =>
        clear hq1 hhl hT hE
        obtain ⟨g13, hg13⟩ : ∃ g, w4.heap.size = g := ⟨_, rfl⟩
        obtain ⟨W4, hW4⟩ : ∃ W, W = w4.alloc (.cells #[.int .i64 q1, .slice (some ⟨g, 0, none⟩) c.tapes.length cap] 34) := ⟨_, rfl⟩
        have X4 : Ext W2 W4 := by rw [hW4]; exact hx4'.trans (Ext.alloc _ _)
        have Bg13 : Blk W4 g13 34 #[.int .i64 q1, .slice (some ⟨g, 0, none⟩) c.tapes.length cap] := by rw [hW4]; exact Blk.new _ _ _ _ hg13
        have a0 : W4.cell? ⟨g5, 0, none⟩ = some (.int .i64 a.tp) := (HA2.out.ext X4).cell 0
        have a1 : W4.cell? ⟨g5, 1, none⟩ = some (.int .i64 a.sy) := (HA2.out.ext X4).cell 1
        have a2 : W4.cell? ⟨g5, 2, none⟩ = some (.int .i64 a.st) := (HA2.out.ext X4).cell 2
        have a3 : W4.cell? ⟨g5, 3, none⟩ = some (.slice Aa a.rules.length ca) := (HA2.out.ext X4).cell 3
        have c0 : W4.cell? ⟨g5 + 1, 0, none⟩ = some (.int .i64 c.q) := (HC2.out.ext X4).cell 0
        have c1 : W4.cell? ⟨g5 + 1, 1, none⟩ = some (.slice (some ⟨bt, 0, none⟩) c.tapes.length cc) := (HC2.out.ext X4).cell 1
        have RS4 := RS W4 (by rw [hW4]; exact Ext.alloc _ _)
        clear RS
        go_upto_region 11 with fail
        try rw [← hW4]
        try rw [hg13]
        clear hW4 hg13
        go_wp2_with fail
        refine RS4.mono ?_
        rintro e w5 ⟨hs, hx5⟩
        have HX5 : Hid (Ext w w5) := Lib.hid (HX2.out.trans (X4.trans hx5))
        clear RS4 Bg13 hx5 a0 a1 a2 a3 c0 c1
        rcases hs with ⟨j, A, cap', hE', rfl⟩ | ⟨j, hF', rfl⟩
        · (obtain rfl := HE.out.one hE'; rw [HHL.out]; clear hE'; go_wp2_with fail; go_ret; exact ⟨rfl, HX5.out.trans (Ext.alloc _ _)⟩)
        · exact (HE.out.notFull hF').elim
      | true =>
        have hlk : lookM a.rules (cfgM a.rules c n) = none := by simpa using hhl
        have HLK := Lib.hid hlk
        obtain ⟨aq, atp⟩ := cfg_ok HMA.out.ok HMA.out.q HMA.out.len HMA.out.tapes n hE.runs
        obtain ⟨ts1, hts1⟩ : ∃ t, (cfgM a.rules c n).tapes = t := ⟨_, rfl⟩
        have HTS := Lib.hid hts1
        have hlt : ts1.length = c.tapes.length := by rw [← hts1, cfgM_tapes]
        rw [hts1] at hT atp
        have hn60 : n ≤ 60 := hE.le
        clear hts1 hlk hhl hq1 aq hE RS
        obtain ⟨g13, hg13⟩ : ∃ g, w4.heap.size = g := ⟨_, rfl⟩
        obtain ⟨W4, hW4⟩ : ∃ W, W = w4.alloc (.cells #[.int .i64 q1, .slice (some ⟨g, 0, none⟩) c.tapes.length cap] 34) := ⟨_, rfl⟩
        have X4 : Ext W2 W4 := by rw [hW4]; exact hx4'.trans (Ext.alloc _ _)
        have Bg13 : Blk W4 g13 34 #[.int .i64 q1, .slice (some ⟨g, 0, none⟩) c.tapes.length cap] := by rw [hW4]; exact Blk.new _ _ _ _ hg13
        have b0 : W4.cell? ⟨g7, 0, none⟩ = some (.int .i64 b.tp) := (HB2.out.ext X4).cell 0
        have b1 : W4.cell? ⟨g7, 1, none⟩ = some (.int .i64 b.sy) := (HB2.out.ext X4).cell 1
        have b2 : W4.cell? ⟨g7, 2, none⟩ = some (.int .i64 b.st) := (HB2.out.ext X4).cell 2
        have b3 : W4.cell? ⟨g7, 3, none⟩ = some (.slice Ab b.rules.length cb) := (HB2.out.ext X4).cell 3
        have E4 : Ext w4 W4 := by rw [hW4]; exact Ext.alloc _ _
        have Y4 : Hid (Ext W3 W4) := Lib.hid (hx4.trans E4)
        have d1 : W4.cell? ⟨g13, 1, none⟩ = some (.slice (some ⟨g, 0, none⟩) c.tapes.length cap) := Bg13.cell 1
        have hlen := HMA.out.len
        have htpb := HS.out.tp
        have R2 := RunMultiB_c b _ ⟨0, ts1⟩ g 0 cap 60 W4 ⟨_, rfl, (HMRB.out.ext X4).rules⟩ HMB.out.ok (inB_iff.2 ⟨by show (0 : Int) ≤ 0; omega, by show (0 : Int) ≤ b.st - 1; omega⟩) (by show (ts1.length : Int) = b.tp; omega) (tapeOk_sy HS.out.sy atp) (hT.ext E4).tapF (by show ts1.length ≤ cap; omega) hc2 (by omega) (by omega)
        dsimp only at R2
        rw [show ((60 : Nat) : Int) = 60 from rfl, hlt] at R2
        have HLT := Lib.hid hlt
        clear E4 Bg13 hT hlen htpb hlt hx4
        go_upto_region 13 with fail
        try rw [← hW4]
        try rw [hg13]
        clear hW4 hg13
        go_wp2_with fail
        refine R2.mono ?_
        rintro e w5 ⟨hr, hx5⟩
        have hx5' := X4.trans hx5
        have HX5 : Hid (Ext w w5) := Lib.hid (HX2.out.trans hx5')
        clear R2 d1 b0 b1 b2 b3
        rcases hr with ⟨k, g2, cap2, hE2, rfl, hd1, hd2, hT2⟩ | ⟨k, hF2, rfl⟩
        · obtain ⟨hl2, hhl2⟩ : ∃ x, (lookM b.rules (cfgM b.rules ⟨0, ts1⟩ k)).isNone = x := ⟨_, rfl⟩
          rw [hhl2]
          have HH2 := Lib.hid hhl2
          cases hl2 with
          | false =>
            clear hE2 hhl2 hT2 hd1
            go_wp2_with fail
            go_ret
            exact ⟨rfl, HX5.out.trans (Ext.alloc _ _)⟩
          | true =>
            have hlk2 : lookM b.rules (cfgM b.rules ⟨0, ts1⟩ k) = none := by simpa using hhl2
            have LW := HS.out.law (c := c) (n := n) (k := k) HMA.out.q HMA.out.len HMA.out.tapes HE.out HLK.out (by rw [HTS.out]; exact hE2) (by rw [HTS.out]; exact hlk2)
            rw [HTS.out] at LW
            obtain ⟨bq, btp⟩ := cfg_ok (c := ⟨0, ts1⟩) HMB.out.ok (inB_iff.2 ⟨by show (0 : Int) ≤ 0; omega, by show (0 : Int) ≤ b.st - 1; omega⟩) (by show (ts1.length : Int) = b.tp; have := HLT.out; have := HMA.out.len; have := HS.out.tp; omega) (tapeOk_sy HS.out.sy atp) k hE2.runs
            have htl : (cfgM b.rules ⟨0, ts1⟩ k).tapes.length = c.tapes.length := by rw [cfgM_tapes]; exact HLT.out
            have hk60 : k ≤ 60 := hE2.le
            rw [show (MConfD.mk 0 ts1).tapes.length = c.tapes.length from HLT.out]
            replace hd1 : c.tapes.length ≤ cap2 := by have := HLT.out; have hd : ts1.length ≤ cap2 := hd1; omega
            obtain ⟨c2, hc2e⟩ : ∃ x, cfgM b.rules ⟨0, ts1⟩ k = x := ⟨_, rfl⟩
            rw [hc2e] at LW bq htl hT2
            rw [hc2e]
            obtain ⟨q2, ts2⟩ := c2
            obtain ⟨bq1, bq2⟩ := inB_iff.1 bq
            replace bq1 : 0 ≤ q2 := bq1
            replace bq2 : q2 ≤ b.st - 1 := bq2
            replace htl : ts2.length = c.tapes.length := htl
            replace hT2 : TapB w5 g2 ts2 := hT2
            have HLW := Lib.hid LW
            have HTL := Lib.hid htl
            clear LW hc2e hlk2 hhl2 hE2 btp bq htl atp
            dsimp only
            obtain ⟨g21, hg21⟩ : ∃ g, w5.heap.size = g := ⟨_, rfl⟩
            obtain ⟨W5, hW5⟩ : ∃ W, W = w5.alloc (.cells #[.int .i64 q2, .slice (some ⟨g2, 0, none⟩) c.tapes.length cap2] 34) := ⟨_, rfl⟩
            have X5 : Ext W2 W5 := by rw [hW5]; exact hx5'.trans (Ext.alloc _ _)
            have Bg21 : Blk W5 g21 34 #[.int .i64 q2, .slice (some ⟨g2, 0, none⟩) c.tapes.length cap2] := by rw [hW5]; exact Blk.new _ _ _ _ hg21
            have c0 : W5.cell? ⟨g5 + 1, 0, none⟩ = some (.int .i64 c.q) := (HC2.out.ext X5).cell 0
            have c1 : W5.cell? ⟨g5 + 1, 1, none⟩ = some (.slice (some ⟨bt, 0, none⟩) c.tapes.length cc) := (HC2.out.ext X5).cell 1
            have E5 : Ext w5 W5 := by rw [hW5]; exact Ext.alloc _ _
            have Y5 : Ext W3 W5 := Y4.out.trans (hx5.trans E5)
            have s0 : W5.cell? ⟨g9, 0, none⟩ = some (.int .i64 s.tp) := (HB9.out.ext Y5).cell 0
            have s1 : W5.cell? ⟨g9, 1, none⟩ = some (.int .i64 s.sy) := (HB9.out.ext Y5).cell 1
            have s2 : W5.cell? ⟨g9, 2, none⟩ = some (.int .i64 s.st) := (HB9.out.ext Y5).cell 2
            have s3 : W5.cell? ⟨g9, 3, none⟩ = some (.slice As s.rules.length cs) := (HB9.out.ext Y5).cell 3
            have R3 := RunMultiB_c s _ c bt 0 cc 200 W5 ⟨_, rfl, HMS.out.ext Y5⟩ HS.out.os (by have h := inB_iff.1 HMA.out.q; have := HS.out.st; exact inB_iff.2 ⟨h.1, by omega⟩) (by have := HMA.out.len; have := HST.out.1; omega) (tapeOk_sy HST.out.2.symm HMA.out.tapes) (HTC2.out.ext X5) hcc1 hcc2 (by omega) (by omega)
            rw [show ((200 : Nat) : Int) = 200 from rfl] at R3
            have HBY := Lib.hid Bg21
            have HE5 := Lib.hid E5
            have HT2 := Lib.hid hT2
            have hga21 : w5.heap.size ≤ g21 := by omega
            have hg21b : W2.heap.size ≤ g21 := by have := hx5'.size; omega
            clear Bg21 E5 Y5 hT2 hx5
            go_upto_region 16 with fail
            try rw [← hW5]
            try rw [hg21]
            clear hW5 hg21
            go_wp2_with fail
            refine R3.mono ?_
            rintro e w6 ⟨hr, hx6⟩
            clear R3 c0 c1 s0 s1 s2 s3
            rcases hr with ⟨t, g3, cap3, hE3, rfl, hf1, hf2, hT3⟩ | ⟨t, hF3, rfl⟩
            · obtain rfl : t = n + 1 + k := hE3.one HLW.out.1
              rw [HLW.out.2.1, HLW.out.2.2]
              rw [HLW.out.2.2] at hT3
              replace hT3 : TapB w6 g3 ts2 := hT3
              have hsum : ((n + 1 + k : Nat) : Int) = (n : Int) + 1 + (k : Int) := by omega
              rw [hsum, Option.isNone_none]
              dsimp only [upC]
              have hwq : IntKind.i64.wrap (q2 + a.st) = q2 + a.st := IntWalk.i64_in _ (by omega)
              have hx6' := X5.trans hx6
              obtain ⟨g25, hg25⟩ : ∃ g, w6.heap.size = g := ⟨_, rfl⟩
              obtain ⟨W6, hW6⟩ : ∃ W, W = w6.alloc (.cells #[.int .i64 (q2 + a.st), .slice (some ⟨g3, 0, none⟩) c.tapes.length cap3] 34) := ⟨_, rfl⟩
              have X6 : Ext W2 W6 := by rw [hW6]; exact hx6'.trans (Ext.alloc _ _)
              have Bg25 : Blk W6 g25 34 #[.int .i64 (q2 + a.st), .slice (some ⟨g3, 0, none⟩) c.tapes.length cap3] := by rw [hW6]; exact Blk.new _ _ _ _ hg25
              have E6 : Ext w6 W6 := by rw [hW6]; exact Ext.alloc _ _
              have BY6 := HBY.out.ext (hx6.trans E6)
              have y0 : W6.cell? ⟨g21, 0, none⟩ = some (.int .i64 q2) := BY6.cell 0
              have yf := BY6.frozen 0
              have a2 : W6.cell? ⟨g5, 2, none⟩ = some (.int .i64 a.st) := (HA2.out.ext X6).cell 2
              have hgl : g21 < w6.heap.size := (HBY.out.ext hx6).lt
              have hne : g25 ≠ g21 := by omega
              obtain ⟨W7, hW7⟩ : ∃ W, W = W6.setCell ⟨g21, 0, none⟩ (.int .i64 (q2 + a.st)) := ⟨_, rfl⟩
              have BY7 : Blk W7 g21 34 #[.int .i64 (q2 + a.st), .slice (some ⟨g2, 0, none⟩) c.tapes.length cap2] := by rw [hW7]; exact BY6.set_ 0 _
              have BZ7 : Blk W7 g25 34 #[.int .i64 (q2 + a.st), .slice (some ⟨g3, 0, none⟩) c.tapes.length cap3] := by rw [hW7]; exact Bg25.far (p := ⟨g21, 0, none⟩) hne _
              have HX7 : Hid (Ext w W7) := Lib.hid (by rw [hW7]; exact HX2.out.trans (X6.setCell (p := ⟨g21, 0, none⟩) hg21b _))
              have TY : TapB W7 g2 ts2 := HT2.out.ext (by rw [hW7]; exact ((HE5.out.trans hx6).trans E6).setCell (p := ⟨g21, 0, none⟩) hga21 _)
              have TZ : TapB W7 g3 ts2 := by rw [hW7]; exact (hT3.ext E6).far BY6 0 _
              have p1 : W7.cell? ⟨g21, 0, none⟩ = some (.int .i64 (q2 + a.st)) := BY7.cell 0
              have p2 : W7.cell? ⟨g21, 1, none⟩ = some (.slice (some ⟨g2, 0, none⟩) c.tapes.length cap2) := BY7.cell 1
              have p3 : W7.cell? ⟨g25, 0, none⟩ = some (.int .i64 (q2 + a.st)) := BZ7.cell 0
              have p4 : W7.cell? ⟨g25, 1, none⟩ = some (.slice (some ⟨g3, 0, none⟩) c.tapes.length cap3) := BZ7.cell 1
              have hlT := HTL.out
              have TZT := TZ.tapF.tapes (cap := cap3) (by omega) hf2
              have TYT := TY.tapF.tapes (cap := cap2) (by omega) hd2
              rw [hlT] at TZT TYT
              have SM := SameMultiConfig_c ⟨q2 + a.st, ts2⟩ _ _ W7 TZT TYT
              dsimp only at SM
              clear TZT TYT TZ TY BZ7 BY7 BY6 Bg25 E6 hT3 hE3 hx6 hlT hsum
              go_upto_region 17 with fail
              try rw [← hW6]
              try rw [hg25]
              clear hW6 hg25
              go_upto_region 18 with fail
              try rw [← hW7]
              clear y0 yf a2 hW7
              go_wp2_with fail
              refine SM.mono ?_
              rintro e w8 ⟨rfl, hx8⟩
              clear SM p1 p2 p3 p4
              go_wp2_with fail
              go_ret
              exact ⟨rfl, HX7.out.trans hx8⟩
            · exact (HLW.out.1.notFull hF3).elim
        · clear hF2 atp
          go_wp2_with fail
          go_ret
          exact ⟨rfl, HX5.out.trans (Ext.alloc _ _)⟩
    · have HF := Lib.hid hF
      clear hF
      obtain ⟨g13, hg13⟩ : ∃ g, w4.heap.size = g := ⟨_, rfl⟩
      obtain ⟨W4, hW4⟩ : ∃ W, W = w4.alloc (.cells #[.int .i64 0, .slice none 0 0] 34) := ⟨_, rfl⟩
      have X4 : Ext W2 W4 := by rw [hW4]; exact hx4'.trans (Ext.alloc _ _)
      have Bg13 : Blk W4 g13 34 #[.int .i64 0, .slice none 0 0] := by rw [hW4]; exact Blk.new _ _ _ _ hg13
      have a0 : W4.cell? ⟨g5, 0, none⟩ = some (.int .i64 a.tp) := (HA2.out.ext X4).cell 0
      have a1 : W4.cell? ⟨g5, 1, none⟩ = some (.int .i64 a.sy) := (HA2.out.ext X4).cell 1
      have a2 : W4.cell? ⟨g5, 2, none⟩ = some (.int .i64 a.st) := (HA2.out.ext X4).cell 2
      have a3 : W4.cell? ⟨g5, 3, none⟩ = some (.slice Aa a.rules.length ca) := (HA2.out.ext X4).cell 3
      have c0 : W4.cell? ⟨g5 + 1, 0, none⟩ = some (.int .i64 c.q) := (HC2.out.ext X4).cell 0
      have c1 : W4.cell? ⟨g5 + 1, 1, none⟩ = some (.slice (some ⟨bt, 0, none⟩) c.tapes.length cc) := (HC2.out.ext X4).cell 1
      have RS4 := RS W4 (by rw [hW4]; exact Ext.alloc _ _)
      clear RS
      go_upto_region 11 with fail
      try rw [← hW4]
      try rw [hg13]
      clear hW4 hg13
      go_wp2_with fail
      refine RS4.mono ?_
      rintro e w5 ⟨hs, hx5⟩
      have HX5 : Hid (Ext w w5) := Lib.hid (HX2.out.trans (X4.trans hx5))
      clear RS4 Bg13 hx5 a0 a1 a2 a3 c0 c1
      rcases hs with ⟨j, A, cap', hE', rfl⟩ | ⟨j, hF', rfl⟩
      · exact (hE'.notFull HF.out).elim
      · (go_wp2_with fail; go_ret; exact ⟨rfl, HX5.out.trans (Ext.alloc _ _)⟩)
end Go.Proofs.Ytkbpchdncljlbaa
end
