/- Contract of the program's look-up of the rule of a machine with several tapes.
Contract of the program's step of a machine with several tapes where there is a rule and room.
The walk of the law on a run of a machine with several tapes, and on its text. -/
import Derived.Test.YtkbpchdncljlbaaGreatDoorV45
import Derived.Test.YtkbpchdncljlbaaGreatDoorV42
import Derived.Test.YtkbpchdncljlbaaGreatDoorV43
section
set_option linter.unusedVariables false
set_option linter.unusedSimpArgs false
namespace Go.Proofs.YtkbpchdncljlbaaGreatDoor
open Go Go.RowKit Go.Proofs Go.Maps
set_option maxHeartbeats 400000
/-- What the look-up gives. -/
def ruleAt (rs : List MRuleD) (c : MConfD) : Int × Int := match lookM rs c with
  | some i => ((i : Int), 0)
  | none => (0, 3)
set_option maxRecDepth 20000 in
set_option maxHeartbeats 4000000 in
theorem MultiRuleAt_c (m : MultiD) (mv tv : Value) (c : MConfD) (w : World) (hM : Mult w mv m) (hm : multiOk m = true) (hT : Tapes w tv c.tapes) (hq : inB c.q 0 (m.st - 1) = true) (hn : (c.tapes.length : Int) = m.tp) (hts : c.tapes.all (tapeOk m) = true) :
    Calls Tryz.prog 13 #[mv, .agg #[.int .i64 c.q, tv]] w fun e w' => e = .returned (.tuple #[.int .i64 (ruleAt m.rules c).1, .int .i64 (ruleAt m.rules c).2]) ∧ Ext w w' := by
  obtain ⟨pr, hpr⟩ : ∃ p, ruleAt m.rules c = p := ⟨_, rfl⟩
  rw [hpr]
  have HPR := Lib.hid hpr
  clear hpr
  have hG := good_of_ok hm hq hn hts
  obtain ⟨⟨tp1, tp2⟩, _⟩ := multi_all hm
  obtain ⟨rv, rfl, hR⟩ := id hM
  obtain ⟨A, cA, rfl, _, _⟩ := hR.form
  obtain ⟨B, cB, rfl, _, _⟩ := hT.form
  obtain ⟨g, hg⟩ : ∃ g, w.heap.size = g := ⟨_, rfl⟩
  obtain ⟨V, hV⟩ : ∃ V, V = (w.alloc (.cells #[.int .i64 m.tp, .int .i64 m.sy, .int .i64 m.st, .slice A m.rules.length cA] 26)).alloc (.cells #[.int .i64 c.q, .slice B c.tapes.length cB] 29) := ⟨_, rfl⟩
  have hX : Ext w V := by rw [hV]; exact (Ext.alloc _ _).trans (Ext.alloc _ _)
  have bM : Blk V g 26 #[.int .i64 m.tp, .int .i64 m.sy, .int .i64 m.st, .slice A m.rules.length cA] := by rw [hV]; exact (Blk.new _ _ _ _ hg).alloc _
  have bC : Blk V (g + 1) 29 #[.int .i64 c.q, .slice B c.tapes.length cB] := by rw [hV]; exact Blk.new _ _ _ _ (by simp [hg])
  have m0 : V.cell? ⟨g, 0, none⟩ = some (.int .i64 m.tp) := bM.cell 0
  have m1 : V.cell? ⟨g, 1, none⟩ = some (.int .i64 m.sy) := bM.cell 1
  have m2 : V.cell? ⟨g, 2, none⟩ = some (.int .i64 m.st) := bM.cell 2
  have m3 : V.cell? ⟨g, 3, none⟩ = some (.slice A m.rules.length cA) := bM.cell 3
  have c0 : V.cell? ⟨g + 1, 0, none⟩ = some (.int .i64 c.q) := bC.cell 0
  have c1 : V.cell? ⟨g + 1, 1, none⟩ = some (.slice B c.tapes.length cB) := bC.cell 1
  have VC := ValidMultiConfig_c m _ _ c V (hM.ext hX) hm (hT.ext hX) hq hn
  rw [hts] at VC
  have HT := Lib.hid hT
  have HM := Lib.hid hm
  have HR := Lib.hid hR
  clear hts hM
  go_enter Tryz.func13, Tryz.ntmps13
  go_upto_region 1 with fail
  try rw [← hV]
  try rw [hg]
  clear hV
  go_wp2_with fail
  refine VC.mono ?_
  rintro e w1 ⟨rfl, hx1⟩
  have bM1 := bM.ext hx1
  have bC1 := bC.ext hx1
  have m0 : w1.cell? ⟨g, 0, none⟩ = some (.int .i64 m.tp) := bM1.cell 0
  have m1 : w1.cell? ⟨g, 1, none⟩ = some (.int .i64 m.sy) := bM1.cell 1
  have m2 : w1.cell? ⟨g, 2, none⟩ = some (.int .i64 m.st) := bM1.cell 2
  have m3 : w1.cell? ⟨g, 3, none⟩ = some (.slice A m.rules.length cA) := bM1.cell 3
  have TM := multiRules_c (.agg #[.int .i64 m.tp, .int .i64 m.sy, .int .i64 m.st, .slice A m.rules.length cA]) m w1 ⟨_, rfl, hR.ext (hX.trans hx1)⟩ hm
  have hX1 := hX.trans hx1
  clear VC c0 c1 bM bC hx1 hX hm hR bM1
  go_wp2_with fail
  refine TM.mono ?_
  rintro e w2 ⟨bm, rfl, tb, hbm, hx2⟩
  have bC2 := bC1.ext hx2
  have c0 : w2.cell? ⟨g + 1, 0, none⟩ = some (.int .i64 c.q) := bC2.cell 0
  have c1 : w2.cell? ⟨g + 1, 1, none⟩ = some (.slice B c.tapes.length cB) := bC2.cell 1
  have RD := read_c (g + 1) c _ w2 c0 c1 (HT.out.ext (hX1.trans hx2)) (by have := hG.n; omega)
  have hX2 := hX1.trans hx2
  clear TM m0 m1 m2 m3 bC1 hx2
  go_wp2_with fail
  refine RD.mono ?_
  rintro e w3 ⟨rfl, hx3⟩
  have lk := (tb.ext hx3).lookup2 rdTy (readM c) hG.key
  have htb : tblM m.rules m.rules.length (readM c) = Option.map (fun i : Nat => (i : Int)) (lookM m.rules c) := rfl
  rw [htb] at lk
  have HX3 : Hid (Ext w w3) := Lib.hid (hX2.trans hx3)
  clear RD hx3 bC2 c0 c1
  simp only [rdE] at lk ⊢
  cases hlk : lookM m.rules c with
  | none =>
    rw [hlk] at lk
    obtain rfl : pr = ((0 : Int), (3 : Int)) := by rw [← HPR.out]; unfold ruleAt; rw [hlk]
    simp only [Option.map_none, Option.getD_none, Option.isSome_none] at lk
    go_wp2_with fail
    exact bodyPost_ret (v := .tuple #[.int .i64 0, .int .i64 3]) (by simp [results, Tryz.results13, go_sem]) rfl ⟨rfl, HX3.out⟩
  | some j =>
    rw [hlk] at lk
    obtain rfl : pr = ((j : Int), (0 : Int)) := by rw [← HPR.out]; unfold ruleAt; rw [hlk]
    simp only [Option.map_some, Option.getD_some, Option.isSome_some] at lk
    go_wp2_with fail
    exact bodyPost_ret (v := .tuple #[.int .i64 (j : Int), .int .i64 0]) (by simp [results, Tryz.results13, go_sem]) rfl ⟨rfl, HX3.out⟩
end Go.Proofs.YtkbpchdncljlbaaGreatDoor
end
section
set_option linter.unusedVariables false
set_option linter.unusedSimpArgs false
namespace Go.Proofs.YtkbpchdncljlbaaGreatDoor
open Go Go.RowKit Go.Proofs Go.Maps
set_option maxHeartbeats 400000
set_option maxRecDepth 20000 in
set_option maxHeartbeats 4000000 in
theorem StepMulti_c (m : MultiD) (mv : Value) (c : MConfD) (b off cap : Nat) (w : World) (hM : Mult w mv m) (hm : multiOk m = true) (hq : inB c.q 0 (m.st - 1) = true) (hn : (c.tapes.length : Int) = m.tp) (hts : c.tapes.all (tapeOk m) = true)
    (hT : TapF w b off c.tapes) (h1 : c.tapes.length ≤ cap) (h2 : cap ≤ 9223372036854775807) (hno : lookM m.rules c ≠ none) (hrm : roomM (stepM m.rules c) = true) :
    Calls Tryz.prog 12 #[mv, .agg #[.int .i64 c.q, .slice (some ⟨b, off, none⟩) c.tapes.length cap]] w fun e w' => ∃ g cp, e = .returned (.tuple #[.agg #[.int .i64 (stepM m.rules c).q, .slice (some ⟨g, 0, none⟩) c.tapes.length cp], .int .i64 0]) ∧
      c.tapes.length ≤ cp ∧ cp ≤ 9223372036854775807 ∧ TapB w' g (stepM m.rules c).tapes ∧ Ext w w' := by
  have hG := good_of_ok hm hq hn hts
  have hroom := room_of_ok hts
  obtain ⟨⟨tp1, tp2⟩, _⟩ := multi_all hm
  have hpos : 0 < c.tapes.length := by omega
  have hn3 : c.tapes.length ≤ 1000 := by omega
  obtain ⟨j, hlk⟩ : ∃ j, lookM m.rules c = some j := Option.ne_none_iff_exists'.1 hno
  have hjl : j < m.rules.length := findM_lt hlk
  have hra : ruleAt m.rules c = ((j : Int), 0) := by unfold ruleAt; rw [hlk]
  have hgdj : m.rules.getD j mr0 = m.rules[j] := getD_mr hjl
  have hstep : stepM m.rules c = applyM c m.rules[j] := by unfold stepM; rw [hlk]; simp only; rw [hgdj]
  obtain ⟨rv, rfl, hR⟩ := id hM
  obtain ⟨A, cA, rfl, _, _⟩ := hR.form
  obtain ⟨g, hg⟩ : ∃ g, w.heap.size = g := ⟨_, rfl⟩
  obtain ⟨V, hV⟩ : ∃ V, V = ((w.alloc (.cells #[.int .i64 m.tp, .int .i64 m.sy, .int .i64 m.st, .slice A m.rules.length cA] 26)).alloc (.cells #[.int .i64 c.q, .slice (some ⟨b, off, none⟩) c.tapes.length cap] 29)).alloc (.cells #[.int .i64 0, .slice none 0 0] 29) := ⟨_, rfl⟩
  have hX : Ext w V := by rw [hV]; exact ((Ext.alloc _ _).trans (Ext.alloc _ _)).trans (Ext.alloc _ _)
  have bM : Blk V g 26 #[.int .i64 m.tp, .int .i64 m.sy, .int .i64 m.st, .slice A m.rules.length cA] := by rw [hV]; exact ((Blk.new _ _ _ _ hg).alloc _).alloc _
  have bC : Blk V (g + 1) 29 #[.int .i64 c.q, .slice (some ⟨b, off, none⟩) c.tapes.length cap] := by rw [hV]; exact (Blk.new _ _ _ _ (by simp [hg])).alloc _
  have bO : Blk V (g + 1 + 1) 29 #[.int .i64 0, .slice none 0 0] := by rw [hV]; exact Blk.new _ _ _ _ (by simp [hg])
  have m0 : V.cell? ⟨g, 0, none⟩ = some (.int .i64 m.tp) := bM.cell 0
  have m1 : V.cell? ⟨g, 1, none⟩ = some (.int .i64 m.sy) := bM.cell 1
  have m2 : V.cell? ⟨g, 2, none⟩ = some (.int .i64 m.st) := bM.cell 2
  have m3 : V.cell? ⟨g, 3, none⟩ = some (.slice A m.rules.length cA) := bM.cell 3
  have c0 : V.cell? ⟨g + 1, 0, none⟩ = some (.int .i64 c.q) := bC.cell 0
  have c1 : V.cell? ⟨g + 1, 1, none⟩ = some (.slice (some ⟨b, off, none⟩) c.tapes.length cap) := bC.cell 1
  have RA := MultiRuleAt_c m _ _ c V (hM.ext hX) hm (TapF.tapes (hT.ext hX) h1 h2) hq hn hts
  rw [hra] at RA
  have HT := Lib.hid hT
  have HST := Lib.hid hstep
  have HRM := Lib.hid hrm
  have HR := Lib.hid hR
  have HM := Lib.hid hm
  have HGD := Lib.hid hG
  have HRO := Lib.hid hroom
  clear hT hts hstep hrm hra hlk hno hgdj hM hm hG hroom hR
  go_enter Tryz.func12, Tryz.ntmps12
  go_upto_region 1 with fail
  try rw [← hV]
  try rw [hg]
  clear hV
  go_wp2_with fail
  refine RA.mono ?_
  rintro e w1 ⟨rfl, hx1⟩
  have hX1 := hX.trans hx1
  have c0 : w1.cell? ⟨g + 1, 0, none⟩ = some (.int .i64 c.q) := (bC.ext hx1).cell 0
  have c1 : w1.cell? ⟨g + 1, 1, none⟩ = some (.slice (some ⟨b, off, none⟩) c.tapes.length cap) := (bC.ext hx1).cell 1
  have CM := copyMultiConfig_c w1 c b off cap h1 h2 hn3 (HT.out.ext hX1)
  clear m0 m1 m2 m3 RA
  go_wp2_with fail
  refine CM.mono ?_
  rintro e w2 ⟨v, cl, rfl, hC, hx2⟩
  obtain ⟨gT, cp, cs, rfl, hAt⟩ := hC.at hx2 hpos
  obtain ⟨W, hW⟩ : ∃ W, W = w2.alloc (.cells #[.int .i64 c.q, .slice (some ⟨gT, 0, none⟩) c.tapes.length cp] 29) := ⟨_, rfl⟩
  have hXW : Ext w2 W := by rw [hW]; exact Ext.alloc _ _
  rw [← hW] at hAt
  obtain ⟨bc, hbc⟩ : ∃ bc, w2.heap.size = bc := ⟨_, rfl⟩
  rw [hbc] at hAt
  have hx12 := hx1.trans (hx2.trans hXW)
  have bM2 := bM.ext hx12
  have m3 : W.cell? ⟨g, 3, none⟩ = some (.slice A m.rules.length cA) := bM2.cell 3
  obtain ⟨rb, ro, vr, vw, vm, hA, d0, d1, d2, d3, d4, j1, j2, j3⟩ := (HR.out.ext hX1).at hjl
  subst hA
  have hro := mrule_all (multi_rule HM.out hjl)
  obtain ⟨r, hrk⟩ : ∃ r, m.rules[j] = r := ⟨_, rfl⟩
  rw [hrk] at d0 d4 j1 j2 j3 hro HST
  obtain ⟨_, _, hl1, hl2, hl3, _⟩ := hro
  obtain ⟨A1, k1, rfl, _, _⟩ := j1.form
  obtain ⟨A2, k2, rfl, _, _⟩ := j2.form
  obtain ⟨A3, k3, rfl, _, _⟩ := j3.form
  have hx1W := hx2.trans hXW
  have e0 := hx1W.cell d0
  have e1 := hx1W.cell d1
  have e2 := hx1W.cell d2
  have e3 := hx1W.cell d3
  have e4 := hx1W.cell d4
  have hji : (j : Int) < (m.rules.length : Int) := by omega
  have AP := apply_c w1 W (fun k => k < w1.heap.size) bc gT cp cs c r _ _ _ hAt j1 j2 j3 (by omega) (by omega) (by omega) (fun i hi => by
    have := List.all_eq_true.1 HRO.out _ (List.getElem_mem hi)
    simp only [roomT, Bool.and_eq_true, decide_eq_true_eq] at this
    omega)
  have hrm' : roomM (applyM c r) = true := by rw [← HST.out]; exact HRM.out
  rw [hrm'] at AP
  have HO1 := Lib.hid (bO.ext hx1)
  have hO1 : g + 1 + 1 < w1.heap.size := (bO.ext hx1).lt
  have HX1 := Lib.hid hX1
  have HRM2 := Lib.hid hrm'
  have HNC : Hid ((applyM c r).tapes.length = c.tapes.length) := Lib.hid (by rw [← HST.out]; exact cfgM_tapes m.rules c 1)
  have hgO : w.heap.size ≤ g + 1 + 1 := by omega
  clear d0 d1 d2 d3 d4 hrk hC hAt CM hrm' hx12 bM2 bO bC hx1 hX hx1W hXW hx2 j1 j2 j3
  go_upto_region 8 with fail
  try rw [← hW]
  try rw [hbc]
  clear hW
  go_wp2_with fail
  refine AP.mono ?_
  rintro e w3 ⟨rfl, cs', hA3, hkp⟩
  have hT3 := hA3.tapB HRM2.out
  have hx3 := hA3.ext0
  have hcp := hA3.cap1
  have hcp2 := hA3.cap2
  have bO3 := HO1.out.ext hx3
  have x0 := hA3.blk.cell 0
  have x1 := hA3.blk.cell 1
  simp only [List.getElem?_toArray, List.getElem?_cons_zero, List.getElem?_cons_succ] at x0 x1
  have hne : bc ≠ g + 1 + 1 := by have := hA3.blo; omega
  rw [HNC.out] at x1 hcp
  have ob := bO3.cell
  have of_ := bO3.frozen
  obtain ⟨cc, hcc⟩ : ∃ cc, applyM c r = cc := ⟨_, rfl⟩
  rw [hcc] at x0 hT3 HST
  have hX3 : Ext w w3 := HX1.out.trans hx3
  obtain ⟨q, hqq⟩ : ∃ q, cc.q = q := ⟨_, rfl⟩
  rw [hqq] at x0
  have HQQ := Lib.hid hqq
  obtain ⟨n, hnn⟩ : ∃ n, c.tapes.length = n := ⟨_, rfl⟩
  have HNN := Lib.hid hnn
  rw [hnn] at x1 hcp
  have HTB : Hid (TapB ((w3.setCell ⟨g + 1 + 1, 0, none⟩ (.int .i64 q)).setCell ⟨g + 1 + 1, 1, none⟩ (.slice (some ⟨gT, 0, none⟩) n cp)) gT cc.tapes) := Lib.hid ((hT3.far bO3 0 _).far (bO3.set_ 0 _) 1 _)
  have HXX := Lib.hid ((hX3.setCell (p := ⟨g + 1 + 1, 0, none⟩) hgO (.int .i64 q)).setCell (p := ⟨g + 1 + 1, 1, none⟩) hgO (.slice (some ⟨gT, 0, none⟩) n cp))
  clear hcc hqq hnn hA3 hT3 hkp AP bO3 hX3 hx3 e0 e1 e2 e3 e4
  go_wp2_with fail
  refine bodyPost_ret (v := .tuple #[.agg #[.int .i64 q, .slice (some ⟨gT, 0, none⟩) n cp], .int .i64 0]) (by simp [results, Tryz.results12, go_sem, ob]) rfl ⟨gT, cp, ?_, ?_, hcp2, ?_, HXX.out⟩
  · rw [HST.out, HQQ.out, HNN.out]
  · rw [HNN.out]
    exact hcp
  · rw [HST.out]
    exact HTB.out
end Go.Proofs.YtkbpchdncljlbaaGreatDoor
end
section
set_option linter.unusedVariables false
set_option linter.unusedSimpArgs false
namespace Go.Proofs.YtkbpchdncljlbaaGreatDoor
open Go Go.RowKit Go.Proofs Go.Maps
set_option maxHeartbeats 400000
/-- What the run has given. -/
def RunH (rs : List MRuleD) (c : MConfD) (N : Nat) (W : World) (q0 : Int) (A0 : Option Addr) (l0 k0 : Nat) (nn : Int) (hh : Bool) (cd : Int) : Prop :=
  (∃ i g, MEnd rs c N i ∧ q0 = (cfgM rs c i).q ∧ A0 = some ⟨g, 0, none⟩ ∧ l0 = c.tapes.length ∧ c.tapes.length ≤ k0 ∧ k0 ≤ 9223372036854775807 ∧ nn = (i : Int) ∧ hh = (lookM rs (cfgM rs c i)).isNone ∧ cd = 0 ∧ TapB W g (cfgM rs c i).tapes) ∨ (∃ i, MFull rs c N i ∧ nn = 0 ∧ cd = 5)
theorem runB_H {rs : List MRuleD} {c : MConfD} {N : Nat} {e : Ending} {W : World} (h : RunRB rs c N e W) : ∃ q0 A0 l0 k0 nn hh cd, e = .returned (.tuple #[.agg #[.int .i64 q0, .slice A0 l0 k0], .int .i64 nn, .bool hh, .int .i64 cd]) ∧ RunH rs c N W q0 A0 l0 k0 nn hh cd := by
  rcases h with ⟨i, g, cap, hE, rfl, h1, h2, hT⟩ | ⟨i, hF, rfl⟩
  · exact ⟨_, _, _, _, _, _, _, rfl, .inl ⟨i, g, hE, rfl, rfl, rfl, h1, h2, rfl, rfl, rfl, hT⟩⟩
  · exact ⟨_, _, _, _, _, _, _, rfl, .inr ⟨i, hF, rfl, rfl⟩⟩
/-- The configuration behind k steps lies in a block. -/
structure NowM (rs : List MRuleD) (c : MConfD) (g : Nat) (w : World) (k gk ck : Nat) (W : World) : Prop where
  blk : Blk W g 29 #[.int .i64 (cfgM rs c k).q, .slice (some ⟨gk, 0, none⟩) c.tapes.length ck]
  tap : TapF W gk 0 (cfgM rs c k).tapes
  c1 : c.tapes.length ≤ ck
  c2 : ck ≤ 9223372036854775807
  ext : Ext w W
theorem NowM.tapes {rs : List MRuleD} {c : MConfD} {g : Nat} {w W : World} {k gk ck : Nat} (h : NowM rs c g w k gk ck W) : Tapes W (.slice (some ⟨gk, 0, none⟩) c.tapes.length ck) (cfgM rs c k).tapes := by
  have e := cfgM_tapes rs c k
  have := h.tap.tapes (cap := ck) (by rw [e]; exact h.c1) h.c2
  rw [e] at this
  exact this
set_option maxRecDepth 40000 in
set_option maxHeartbeats 16000000 in
theorem law35_c (v1 v2 : Value) (bs1 bs2 : List Int) (w : World) (h1 : Bytes w v1 bs1) (h2 : Bytes w v2 bs2) (hT : Tab w) (hML : MaxL w) :
    Calls Tryz.prog 3 #[v1, v2] w fun e w' => e = .returned (.bool true) ∧ Ext w w' := by
  obtain ⟨A1, k1, rfl, _, _, _⟩ := h1.1.form
  obtain ⟨A2, k2, rfl, _, _, _⟩ := h2.1.form
  go_enter Tryz.func3, Tryz.ntmps3
  go_wp2_with fail
  refine (b10Long_c _ bs1 w h1).mono ?_
  rintro e w' ⟨rfl, rfl⟩
  by_cases l1 : 1048576 < bs1.length
  · rw [decide_eq_true l1]
    go_wp2_with fail
    go_ret
    exact ⟨rfl, Ext.refl _⟩
  rw [decide_eq_false l1]
  go_wp2_with fail
  refine (b10Long_c _ bs2 w h2).mono ?_
  rintro e w' ⟨rfl, rfl⟩
  by_cases l2 : 1048576 < bs2.length
  · rw [decide_eq_true l2]
    go_wp2_with fail
    go_ret
    exact ⟨rfl, Ext.refl _⟩
  rw [decide_eq_false l2]
  go_wp2_with fail
  refine (B10Multi_c _ bs1 w h1).mono ?_
  rintro e w1 ⟨⟨m, c, Aa, ca, Ac, cc, rfl, MA⟩, hx1⟩
  obtain ⟨bt, rfl, TC, hcc1, hcc2⟩ := MA.ot.tapF (by have := MA.len; have := (multi_all MA.ok).1; omega) MA.tapes
  obtain ⟨g5, hg5⟩ : ∃ g, w1.heap.size = g := ⟨_, rfl⟩
  obtain ⟨W1, hW1⟩ : ∃ W, W = (w1.alloc (.cells #[.int .i64 m.tp, .int .i64 m.sy, .int .i64 m.st, .slice Aa m.rules.length ca] 26)).alloc (.cells #[.int .i64 c.q, .slice (some ⟨bt, 0, none⟩) c.tapes.length cc] 29) := ⟨_, rfl⟩
  have e1 : Ext w1 W1 := by rw [hW1]; exact (Ext.alloc _ _).trans (Ext.alloc _ _)
  have bA : Blk W1 g5 26 #[.int .i64 m.tp, .int .i64 m.sy, .int .i64 m.st, .slice Aa m.rules.length ca] := by rw [hW1]; exact (Blk.new _ _ _ _ hg5).alloc _
  have bC : Blk W1 (g5 + 1) 29 #[.int .i64 c.q, .slice (some ⟨bt, 0, none⟩) c.tapes.length cc] := by rw [hW1]; exact Blk.new _ _ _ _ (by simp [hg5])
  have HM := Lib.hid MA.ok
  have HQ := Lib.hid MA.q
  have HL := Lib.hid MA.len
  have HTP := Lib.hid MA.tapes
  have HTC : Hid (TapF W1 bt 0 c.tapes) := Lib.hid (TC.ext e1)
  have HMR : Hid (MRules W1 (.slice Aa m.rules.length ca) m.rules) := Lib.hid (MA.mr.ext e1).rules
  have HX1 : Hid (Ext w W1) := Lib.hid (hx1.trans e1)
  have HA := Lib.hid bA
  have HC := Lib.hid bC
  have BA := b10At_c _ bs2 0 30 W1 (h2.ext (hx1.trans e1)) (by omega) (by omega)
  clear MA TC h1 h2 l1 l2 hx1 e1
  go_upto_region 4 with fail
  try rw [← hW1]
  try rw [hg5]
  clear hW1 hg5
  go_wp2_with fail
  refine BA.mono ?_
  rintro e w' ⟨⟨z, rfl, hz0, _, hz1⟩, rfl⟩
  have hz30 : z < 30 := hz1 (by omega)
  obtain ⟨N, hN⟩ : ∃ N : Nat, (N : Int) = 1 + z := ⟨(1 + z).toNat, by omega⟩
  have HN := Lib.hid hN
  have hwz : IntKind.i64.wrap (1 + z) = 1 + z := IntWalk.i64_in _ (by omega)
  have R1 := RunMultiB_c m _ c bt 0 cc N W1 ⟨_, rfl, HMR.out⟩ HM.out HQ.out HL.out HTP.out HTC.out hcc1 hcc2 (by omega) (by omega)
  rw [hN] at R1
  have a0 : W1.cell? ⟨g5, 0, none⟩ = some (.int .i64 m.tp) := (HA.out.ext (Ext.refl _)).cell 0
  have a1 : W1.cell? ⟨g5, 1, none⟩ = some (.int .i64 m.sy) := (HA.out.ext (Ext.refl _)).cell 1
  have a2 : W1.cell? ⟨g5, 2, none⟩ = some (.int .i64 m.st) := (HA.out.ext (Ext.refl _)).cell 2
  have a3 : W1.cell? ⟨g5, 3, none⟩ = some (.slice Aa m.rules.length ca) := (HA.out.ext (Ext.refl _)).cell 3
  have c0 : W1.cell? ⟨g5 + 1, 0, none⟩ = some (.int .i64 c.q) := (HC.out.ext (Ext.refl _)).cell 0
  have c1 : W1.cell? ⟨g5 + 1, 1, none⟩ = some (.slice (some ⟨bt, 0, none⟩) c.tapes.length cc) := (HC.out.ext (Ext.refl _)).cell 1
  clear hN BA bA bC
  go_wp2_with fail
  refine R1.mono ?_
  rintro e w2 ⟨hr, hx2⟩
  obtain ⟨q0, A0, l0, k0, nn, hh, cd, rfl, hH⟩ := runB_H hr
  clear R1 hr a0 a1 a2 a3 c0 c1
  obtain ⟨g8, hg8⟩ : ∃ g, w2.heap.size = g := ⟨_, rfl⟩
  obtain ⟨W3, hW3⟩ : ∃ W, W = w2.alloc (.cells #[.int .i64 q0, .slice A0 l0 k0] 29) := ⟨_, rfl⟩
  have Eg8 : Ext w2 W3 := by rw [hW3]; exact Ext.alloc _ _
  have X3 : Ext W1 W3 := hx2.trans Eg8
  have Bg8 : Blk W3 g8 29 #[.int .i64 q0, .slice A0 l0 k0] := by rw [hW3]; exact Blk.new _ _ _ _ hg8
  have HR := Lib.hid hH
  have a0 : W3.cell? ⟨g5, 0, none⟩ = some (.int .i64 m.tp) := (HA.out.ext X3).cell 0
  have a1 : W3.cell? ⟨g5, 1, none⟩ = some (.int .i64 m.sy) := (HA.out.ext X3).cell 1
  have a2 : W3.cell? ⟨g5, 2, none⟩ = some (.int .i64 m.st) := (HA.out.ext X3).cell 2
  have a3 : W3.cell? ⟨g5, 3, none⟩ = some (.slice Aa m.rules.length ca) := (HA.out.ext X3).cell 3
  have MT := MultiText_c m (.agg #[.int .i64 m.tp, .int .i64 m.sy, .int .i64 m.st, .slice Aa m.rules.length ca]) W3 ⟨_, rfl, HMR.out.ext X3⟩ HM.out (hT.ext (HX1.out.trans X3))
  clear hH
  go_upto_region 6 with fail
  try rw [← hW3]
  try rw [hg8]
  clear hW3 hg8
  go_wp2_with fail
  refine MT.mono ?_
  rintro e w4 ⟨rfl, hx4⟩
  have X4 : Ext W1 w4 := X3.trans hx4
  have RM := ReadMulti_c m w4 HM.out (hT.ext (HX1.out.trans X4)) (hML.ext (HX1.out.trans X4))
  clear MT a0 a1 a2 a3
  go_wp2_with fail
  refine RM.mono ?_
  rintro e w5 ⟨rv, rfl, hrm, hx5⟩
  obtain ⟨Ar, cr, rfl, _, _⟩ := id hrm.form
  clear RM
  have X5' : Ext W1 w5 := X4.trans hx5
  obtain ⟨g12, hg12⟩ : ∃ g, w5.heap.size = g := ⟨_, rfl⟩
  obtain ⟨W5, hW5⟩ : ∃ W, W = w5.alloc (.cells #[.int .i64 m.tp, .int .i64 m.sy, .int .i64 m.st, .slice Ar m.rules.length cr] 26) := ⟨_, rfl⟩
  have Eg12 : Ext w5 W5 := by rw [hW5]; exact Ext.alloc _ _
  have X5 : Ext W1 W5 := X5'.trans Eg12
  have Bg12 : Blk W5 g12 26 #[.int .i64 m.tp, .int .i64 m.sy, .int .i64 m.st, .slice Ar m.rules.length cr] := by rw [hW5]; exact Blk.new _ _ _ _ hg12
  have hmr5 : MRules W5 (.slice Ar m.rules.length cr) m.rules := (hrm.ext Eg12).rules
  have a0 : W5.cell? ⟨g5, 0, none⟩ = some (.int .i64 m.tp) := (HA.out.ext X5).cell 0
  have a1 : W5.cell? ⟨g5, 1, none⟩ = some (.int .i64 m.sy) := (HA.out.ext X5).cell 1
  have a2 : W5.cell? ⟨g5, 2, none⟩ = some (.int .i64 m.st) := (HA.out.ext X5).cell 2
  have a3 : W5.cell? ⟨g5, 3, none⟩ = some (.slice Aa m.rules.length ca) := (HA.out.ext X5).cell 3
  have r0 : W5.cell? ⟨g12, 0, none⟩ = some (.int .i64 m.tp) := Bg12.cell 0
  have r1 : W5.cell? ⟨g12, 1, none⟩ = some (.int .i64 m.sy) := Bg12.cell 1
  have r2 : W5.cell? ⟨g12, 2, none⟩ = some (.int .i64 m.st) := Bg12.cell 2
  have r3 : W5.cell? ⟨g12, 3, none⟩ = some (.slice Ar m.rules.length cr) := Bg12.cell 3
  have MS1 := fun D os => MultiTextS_c m (.agg #[.int .i64 m.tp, .int .i64 m.sy, .int .i64 m.st, .slice Ar m.rules.length cr]) _ ⟨_, rfl, hmr5.ext (below_regrown W5 D os)⟩ HM.out
  have MS2 := fun D os => MultiTextS_c m (.agg #[.int .i64 m.tp, .int .i64 m.sy, .int .i64 m.st, .slice Aa m.rules.length ca]) _ ⟨_, rfl, (HMR.out.ext X5).ext (below_regrown W5 D os)⟩ HM.out
  have ra0 := cellR a0
  have ra1 := cellR a1
  have ra2 := cellR a2
  have ra3 := cellR a3
  have rr0 := cellR r0
  have rr1 := cellR r1
  have rr2 := cellR r2
  have rr3 := cellR r3
  have HX45 : Hid (Ext W3 W5) := Lib.hid ((hx4.trans hx5).trans Eg12)
  have HB8 := Lib.hid Bg8
  have HE8 := Lib.hid Eg8
  clear hrm hx4 hx5 X4 X5' Bg12 Eg12 Bg8 Eg8 a0 a1 a2 a3 r0 r1 r2 r3
  go_upto_region 7 with fail
  try rw [← hW5]
  try rw [hg12]
  clear hW5 hg12
  generalize bsS (mltT m) = T at *
  refine wp_region_ext (by kernel_rfl) (by kernel_rfl) ?_
  repeat (go_big_quiet_step ((go_at_call 10; first | with_reducible exact Calls.extR (MS1 _ _) | with_reducible exact Calls.extR (MS2 _ _))))
  refine wpQuiet_nil ?_
  intro w6 hx6
  have X6 : Ext W1 w6 := X5.trans hx6
  have HX36 : Hid (Ext W3 w6) := Lib.hid (HX45.out.trans hx6)
  clear MS1 MS2 ra0 ra1 ra2 ra3 rr0 rr1 rr2 rr3 hmr5 hx6 HX45
  go_upto_region 9 with fail
  rcases HR.out with ⟨i, g, hE, rfl, rfl, rfl, hk1, hk2, rfl, rfl, rfl, hTB⟩ | ⟨i, hF, rfl, rfl⟩
  · have a0 : w6.cell? ⟨g5, 0, none⟩ = some (.int .i64 m.tp) := (HA.out.ext X6).cell 0
    have a1 : w6.cell? ⟨g5, 1, none⟩ = some (.int .i64 m.sy) := (HA.out.ext X6).cell 1
    have a2 : w6.cell? ⟨g5, 2, none⟩ = some (.int .i64 m.st) := (HA.out.ext X6).cell 2
    have a3 : w6.cell? ⟨g5, 3, none⟩ = some (.slice Aa m.rules.length ca) := (HA.out.ext X6).cell 3
    have c0 : w6.cell? ⟨g5 + 1, 0, none⟩ = some (.int .i64 c.q) := (HC.out.ext X6).cell 0
    have c1 : w6.cell? ⟨g5 + 1, 1, none⟩ = some (.slice (some ⟨bt, 0, none⟩) c.tapes.length cc) := (HC.out.ext X6).cell 1
    obtain ⟨g18, hg18⟩ : ∃ g, w6.heap.size = g := ⟨_, rfl⟩
    obtain ⟨W7, hW7⟩ : ∃ W, W = w6.alloc (.cells #[.int .i64 c.q, .slice (some ⟨bt, 0, none⟩) c.tapes.length cc] 29) := ⟨_, rfl⟩
    have Eg18 : Ext w6 W7 := by rw [hW7]; exact Ext.alloc _ _
    have X7 : Ext W1 W7 := X6.trans Eg18
    have Bg18 : Blk W7 g18 29 #[.int .i64 c.q, .slice (some ⟨bt, 0, none⟩) c.tapes.length cc] := by rw [hW7]; exact Blk.new _ _ _ _ hg18
    have HTB := Lib.hid hTB
    have HE := Lib.hid hE
    have HXX : Hid (Ext w w6) := Lib.hid (HX1.out.trans X6)
    have st0 : NowM m.rules c g18 w6 0 bt cc W7 := ⟨Bg18, HTC.out.ext X7, hcc1, hcc2, Eg18⟩
    have hg18' : w6.heap.size ≤ g18 := by omega
    have hiz : (i : Int) ≤ 1 + z := by have := hE.le; have := HN.out; omega
    have hi30 : i ≤ 30 := by omega
    clear hTB hE Bg18 Eg18
    go_upto_region 13 with fail
    try rw [← hW7]
    try rw [hg18]
    clear hW7 hg18
    clear a0 a1 a2 a3 c0 c1
    go_wp2_with fail
    go_loopw [19, 20, 21] (fun x p y wr => ∃ (k gk ck : Nat), k ≤ i ∧ x = .int .i64 (k : Int) ∧ NowM m.rules c g18 w6 k gk ck wr) (fun x _ _ _ => i - (intOf x).toNat)
    case atStart => exact ⟨0, bt, cc, Nat.zero_le _, rfl, st0⟩
    case round =>
      clear st0
      obtain ⟨k, gk, ck, hk, rfl, st⟩ := hrel
      have Xr : Ext W1 wr := X6.trans st.ext
      have a0 : wr.cell? ⟨g5, 0, none⟩ = some (.int .i64 m.tp) := (HA.out.ext Xr).cell 0
      have a1 : wr.cell? ⟨g5, 1, none⟩ = some (.int .i64 m.sy) := (HA.out.ext Xr).cell 1
      have a2 : wr.cell? ⟨g5, 2, none⟩ = some (.int .i64 m.st) := (HA.out.ext Xr).cell 2
      have a3 : wr.cell? ⟨g5, 3, none⟩ = some (.slice Aa m.rules.length ca) := (HA.out.ext Xr).cell 3
      have n0 : wr.cell? ⟨g18, 0, none⟩ = some (.int .i64 (cfgM m.rules c k).q) := st.blk.cell 0
      have n1 : wr.cell? ⟨g18, 1, none⟩ = some (.slice (some ⟨gk, 0, none⟩) c.tapes.length ck) := st.blk.cell 1
      have hE := HE.out
      obtain ⟨kq, ktp⟩ := cfg_ok HM.out HQ.out HL.out HTP.out k ⟨fun j hj => hE.runs.no j (by omega), fun j hj => hE.runs.room j (by omega)⟩
      have hct := cfgM_tapes m.rules c k
      have ST := Lib.hid st
      by_cases hlt : k < i
      · have SP := StepMulti_c m _ (cfgM m.rules c k) gk 0 ck wr ⟨_, rfl, HMR.out.ext Xr⟩ HM.out kq (by rw [hct]; exact HL.out) ktp st.tap (by rw [hct]; exact st.c1) st.c2 (hE.runs.no k hlt) (hE.runs.room (k + 1) (by omega))
        rw [hct] at SP
        have hk1' : (k : Int) < (i : Int) := by omega
        have hk2' : (k : Int) < 1 + z := by omega
        clear st hE kq ktp hct Xr
        go_wp2_with fail
        refine SP.mono ?_
        rintro e w8 ⟨gn, cn, rfl, hn1, hn2, hTn, hx8⟩
        clear SP
        have b8 := ST.out.blk.ext hx8
        obtain ⟨gx, hgx⟩ : ∃ g, w8.heap.size = g := ⟨_, rfl⟩
        obtain ⟨q', hq'⟩ : ∃ q, (stepM m.rules (cfgM m.rules c k)).q = q := ⟨_, rfl⟩
        obtain ⟨W9, hW9⟩ : ∃ W, W = w8.alloc (.cells #[.int .i64 q', .slice (some ⟨gn, 0, none⟩) c.tapes.length cn] 29) := ⟨_, rfl⟩
        have e9 : Ext w8 W9 := by rw [hW9]; exact Ext.alloc _ _
        have bx : Blk W9 gx 29 #[.int .i64 q', .slice (some ⟨gn, 0, none⟩) c.tapes.length cn] := by rw [hW9]; exact Blk.new _ _ _ _ hgx
        have b9 := b8.ext e9
        have x0 : W9.cell? ⟨gx, 0, none⟩ = some (.int .i64 q') := bx.cell 0
        have x1 : W9.cell? ⟨gx, 1, none⟩ = some (.slice (some ⟨gn, 0, none⟩) c.tapes.length cn) := bx.cell 1
        have y0 := b9.cell
        have yf := b9.frozen
        have HT9 : Hid (TapB ((W9.setCell ⟨g18, 0, none⟩ (.int .i64 q')).setCell ⟨g18, 1, none⟩ (.slice (some ⟨gn, 0, none⟩) c.tapes.length cn)) gn (cfgM m.rules c (k + 1)).tapes) := Lib.hid (((hTn.ext e9).far b9 0 _).far (b9.set_ 0 _) 1 _)
        have HB9 : Hid (Blk ((W9.setCell ⟨g18, 0, none⟩ (.int .i64 q')).setCell ⟨g18, 1, none⟩ (.slice (some ⟨gn, 0, none⟩) c.tapes.length cn)) g18 29 #[.int .i64 q', .slice (some ⟨gn, 0, none⟩) c.tapes.length cn]) := Lib.hid ((b9.set_ 0 (.int .i64 q')).set_ 1 (.slice (some ⟨gn, 0, none⟩) c.tapes.length cn))
        have HX9 : Hid (Ext w6 ((W9.setCell ⟨g18, 0, none⟩ (.int .i64 q')).setCell ⟨g18, 1, none⟩ (.slice (some ⟨gn, 0, none⟩) c.tapes.length cn))) := Lib.hid ((((ST.out.ext.trans hx8).trans e9).setCell (p := ⟨g18, 0, none⟩) hg18' _).setCell (p := ⟨g18, 1, none⟩) hg18' _)
        have HQ' := Lib.hid hq'
        try rw [hq']
        clear hq' hTn bx b8 b9 e9 hx8 a0 a1 a2 a3 n0 n1
        go_upto_region 17 with fail
        try rw [← hW9]
        try rw [hgx]
        clear hW9 hgx
        go_wp2_with fail
        go_roundw
        case rel => exact ⟨k + 1, gn, cn, by omega, by go_num, ⟨by show Blk _ _ _ #[.int .i64 (stepM m.rules (cfgM m.rules c k)).q, _]; rw [HQ'.out]; exact HB9.out, HT9.out.tapF, hn1, hn2, HX9.out⟩⟩
        case measure => simp [intOf]; omega
      · obtain rfl : i = k := by omega
        have RA := MultiRuleAt_c m _ _ (cfgM m.rules c i) wr ⟨_, rfl, HMR.out.ext Xr⟩ HM.out st.tapes kq (by rw [hct]; exact HL.out) ktp
        clear st hE kq ktp hct Xr
        by_cases hlk : lookM m.rules (cfgM m.rules c i) = none
        · rw [show ruleAt m.rules (cfgM m.rules c i) = ((0 : Int), (3 : Int)) by unfold ruleAt; rw [hlk]] at RA
          have hnone : (lookM m.rules (cfgM m.rules c i)).isNone = true := by rw [hlk]; rfl
          try rw [hnone]
          try rw [hnone] at *
          clear hlk hnone
          go_wp2_with fail
          refine RA.mono ?_
          rintro e w8 ⟨rfl, hx8⟩
          have n0 : w8.cell? ⟨g18, 0, none⟩ = some (.int .i64 (cfgM m.rules c i).q) := (ST.out.blk.ext hx8).cell 0
          have n1 : w8.cell? ⟨g18, 1, none⟩ = some (.slice (some ⟨gk, 0, none⟩) c.tapes.length ck) := (ST.out.blk.ext hx8).cell 1
          have X38 : Ext W3 w8 := (HX36.out.trans ST.out.ext).trans hx8
          have s0 : w8.cell? ⟨g8, 0, none⟩ = some (.int .i64 (cfgM m.rules c i).q) := (HB8.out.ext X38).cell 0
          have s1 : w8.cell? ⟨g8, 1, none⟩ = some (.slice (some ⟨g, 0, none⟩) c.tapes.length k0) := (HB8.out.ext X38).cell 1
          have TL : Tapes w8 (.slice (some ⟨g, 0, none⟩) c.tapes.length k0) (cfgM m.rules c i).tapes := by
            have e := cfgM_tapes m.rules c i
            have := (HTB.out.ext (HE8.out.trans X38)).tapF.tapes (cap := k0) (by rw [e]; exact hk1) hk2
            rw [e] at this
            exact this
          have SM := SameMultiConfig_c (cfgM m.rules c i) _ _ w8 (ST.out.tapes.ext hx8) TL
          have HX8 : Hid (Ext w w8) := Lib.hid ((HXX.out.trans ST.out.ext).trans hx8)
          clear RA a0 a1 a2 a3 TL hx8 X38
          go_wp2_with fail
          refine SM.mono ?_
          rintro e w9 ⟨rfl, hx9⟩
          have HXF : Hid (Ext w w9) := Lib.hid (HX8.out.trans hx9)
          clear SM hx9 n0 n1 s0 s1
          go_wp2_with fail
          go_ret
          exact ⟨rfl, HXF.out⟩
        · obtain ⟨j, hj⟩ : ∃ j, lookM m.rules (cfgM m.rules c i) = some j := Option.ne_none_iff_exists'.1 hlk
          rw [show ruleAt m.rules (cfgM m.rules c i) = ((j : Int), 0) by unfold ruleAt; rw [hj]] at RA
          have hiN : (i : Int) = 1 + z := by
            rcases HE.out.stop with h | h
            · rw [h]; exact HN.out
            · exact absurd h hlk
          have hnone : (lookM m.rules (cfgM m.rules c i)).isNone = false := by rw [hj]; rfl
          try rw [hnone]
          try rw [hnone] at *
          clear hj
          clear hlk hnone
          go_wp2_with fail
          refine RA.mono ?_
          rintro e w8 ⟨rfl, hx8⟩
          have n0 : w8.cell? ⟨g18, 0, none⟩ = some (.int .i64 (cfgM m.rules c i).q) := (ST.out.blk.ext hx8).cell 0
          have n1 : w8.cell? ⟨g18, 1, none⟩ = some (.slice (some ⟨gk, 0, none⟩) c.tapes.length ck) := (ST.out.blk.ext hx8).cell 1
          have X38 : Ext W3 w8 := (HX36.out.trans ST.out.ext).trans hx8
          have s0 : w8.cell? ⟨g8, 0, none⟩ = some (.int .i64 (cfgM m.rules c i).q) := (HB8.out.ext X38).cell 0
          have s1 : w8.cell? ⟨g8, 1, none⟩ = some (.slice (some ⟨g, 0, none⟩) c.tapes.length k0) := (HB8.out.ext X38).cell 1
          have TL : Tapes w8 (.slice (some ⟨g, 0, none⟩) c.tapes.length k0) (cfgM m.rules c i).tapes := by
            have e := cfgM_tapes m.rules c i
            have := (HTB.out.ext (HE8.out.trans X38)).tapF.tapes (cap := k0) (by rw [e]; exact hk1) hk2
            rw [e] at this
            exact this
          have SM := SameMultiConfig_c (cfgM m.rules c i) _ _ w8 (ST.out.tapes.ext hx8) TL
          have HX8 : Hid (Ext w w8) := Lib.hid ((HXX.out.trans ST.out.ext).trans hx8)
          clear RA a0 a1 a2 a3 TL hx8 X38
          go_wp2_with fail
          refine SM.mono ?_
          rintro e w9 ⟨rfl, hx9⟩
          have HXF : Hid (Ext w w9) := Lib.hid (HX8.out.trans hx9)
          clear SM hx9 n0 n1 s0 s1
          go_wp2_with fail
          go_ret
          exact ⟨rfl, HXF.out⟩
  · have a0 : w6.cell? ⟨g5, 0, none⟩ = some (.int .i64 m.tp) := (HA.out.ext X6).cell 0
    have a1 : w6.cell? ⟨g5, 1, none⟩ = some (.int .i64 m.sy) := (HA.out.ext X6).cell 1
    have a2 : w6.cell? ⟨g5, 2, none⟩ = some (.int .i64 m.st) := (HA.out.ext X6).cell 2
    have a3 : w6.cell? ⟨g5, 3, none⟩ = some (.slice Aa m.rules.length ca) := (HA.out.ext X6).cell 3
    have c0 : w6.cell? ⟨g5 + 1, 0, none⟩ = some (.int .i64 c.q) := (HC.out.ext X6).cell 0
    have c1 : w6.cell? ⟨g5 + 1, 1, none⟩ = some (.slice (some ⟨bt, 0, none⟩) c.tapes.length cc) := (HC.out.ext X6).cell 1
    have RS := RunMultiS_c m _ _ c N w6 ⟨_, rfl, HMR.out.ext X6⟩ HM.out HQ.out HL.out HTP.out ((HTC.out.ext X6).tapes hcc1 hcc2) (by have := HN.out; omega) (by have := HN.out; omega)
    rw [HN.out] at RS
    have HF := Lib.hid hF
    have HXX : Hid (Ext w w6) := Lib.hid (HX1.out.trans X6)
    clear hF
    go_wp2_with fail
    refine RS.mono ?_
    rintro e w7 ⟨hs, hx7⟩
    clear RS
    rcases hs with ⟨j, A, cap', hE', rfl⟩ | ⟨j, hF', rfl⟩
    · exact (hE'.notFull HF.out).elim
    · clear hF'
      go_wp2_with fail
      go_ret
      exact ⟨rfl, (HXX.out.trans hx7).trans (Ext.alloc _ _)⟩
end Go.Proofs.YtkbpchdncljlbaaGreatDoor
end
