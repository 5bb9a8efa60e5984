/- Contract: one step of a machine, where it does not halt.
The contract of the laws' r8Long.
Contracts of the law's blank configuration and of its runs of so many steps. -/
import Derived.Test.YtapjofbjedpmgaaGreatC34
import Derived.Test.YtapjofbjedpmgaaGreatC06
import Derived.Test.YtapjofbjedpmgaaGreatC02
section
set_option linter.unusedSimpArgs false
set_option linter.unusedVariables false
namespace Go.Proofs.YtapjofbjedpmgaaGreat
open Go Go.RowKit Go.Proofs
set_option maxHeartbeats 400000
/-- What a step returns. -/
def StpM (w : World) (c : ConfD) (e : Ending) (w' : World) : Prop :=
  Ext w w' ∧ ((e = .returned (.tuple #[.agg #[.int .i64 0, .slice none 0 0, .slice none 0 0], .int .i64 5])) ∨ (fitI c = true ∧ ∃ lv rv, e = .returned (.tuple #[.agg #[.int .i64 c.q, lv, rv], .int .i64 0]) ∧ OwnInts w.heap.size w' lv c.l ∧ OwnInts w.heap.size w' rv c.r))
set_option maxRecDepth 20000 in
set_option maxHeartbeats 4000000 in
theorem StepMachine_c (rvm : Value) (m : MachD) (c : ConfD) (lv qv : Value) (w : World) (hr : Rules w rvm m.rules) (hl : Ints w lv c.l) (hq : Ints w qv c.r) (fl : Flat lv) (fr : Flat qv) (hm : machOk m = true) (hc : confB m c = true) (hno : ¬ lookI m c = noR) :
    Calls Tryz.prog 11 #[.agg #[.int .i64 m.sy, .int .i64 m.st, rvm], .agg #[.int .i64 c.q, lv, qv]] w (StpM w (stepI (lookI m c) c)) := by
  obtain ⟨Am, cm, rfl, _, _⟩ := hr.form
  obtain ⟨Al, cl, rfl, _, _⟩ := hl.form
  obtain ⟨Ar, cr, rfl, _, _⟩ := hq.form
  obtain ⟨gm, hgm⟩ : ∃ g, w.heap.size = g := ⟨_, rfl⟩
  obtain ⟨W, hW⟩ : ∃ W, W = ((w.alloc (.cells #[.int .i64 m.sy, .int .i64 m.st, .slice Am m.rules.length cm] 26)).alloc (.cells #[.int .i64 c.q, .slice Al c.l.length cl, .slice Ar c.r.length cr] 29)).alloc (.cells #[.int .i64 0, .slice none 0 0, .slice none 0 0] 29) := ⟨_, rfl⟩
  have hXW : Ext w W := by rw [hW]; exact ((Ext.alloc _ _).trans (Ext.alloc _ _)).trans (Ext.alloc _ _)
  have bM : Blk W gm 26 #[.int .i64 m.sy, .int .i64 m.st, .slice Am m.rules.length cm] := by rw [hW]; exact ((Blk.new _ _ _ _ hgm).alloc _).alloc _
  have bC : Blk W (gm + 1) 29 #[.int .i64 c.q, .slice Al c.l.length cl, .slice Ar c.r.length cr] := by rw [hW]; exact (Blk.new _ _ _ _ (by simp [hgm])).alloc _
  have bO : Blk W (gm + 1 + 1) 29 #[.int .i64 0, .slice none 0 0, .slice none 0 0] := by rw [hW]; exact Blk.new _ _ _ _ (by simp [hgm])
  have hlo : Hid (w.heap.size ≤ gm + 1 + 1) := Lib.hid (by omega)
  obtain ⟨hg, hf⟩ := conf_run hc
  have hfl : c.l.length ≤ 200 ∧ c.r.length ≤ 200 := by simpa [fitI] using hf
  have HC := Lib.hid (And.intro (hr.ext hXW) (And.intro (hl.ext hXW) (And.intro (hq.ext hXW) (And.intro fl (And.intro fr (And.intro hm (And.intro hc (And.intro hno (And.intro hg (And.intro bO hXW))))))))))
  have m0 := bM.cell 0
  have m1 := bM.cell 1
  have m2 := bM.cell 2
  have q0 := bC.cell 0
  have q1 := bC.cell 1
  have q2 := bC.cell 2
  simp only [List.getElem?_toArray, List.getElem?_cons_zero, List.getElem?_cons_succ] at m0 m1 m2 q0 q1 q2
  have VC := ValidConfig_c (.agg #[.int .i64 m.sy, .int .i64 m.st, .slice Am m.rules.length cm]) (.agg #[.int .i64 c.q, .slice Al c.l.length cl, .slice Ar c.r.length cr]) m c W ⟨_, rfl, hr.ext hXW⟩ ⟨_, _, rfl, hl.ext hXW, hq.ext hXW⟩
  rw [hm, hc] at VC
  simp only [Bool.and_true] at VC
  clear hr hl hq fl fr hm hc hno hg hf bM bC bO hXW
  go_enter Tryz.func11, Tryz.ntmps11
  go_wp2_with fail
  try rw [← hW]
  try rw [hgm]
  clear hW hgm
  refine VC.mono ?_
  rintro e w1 ⟨rfl, hx1⟩
  clear VC
  replace m0 := hx1.cell m0
  replace m1 := hx1.cell m1
  replace m2 := hx1.cell m2
  replace q0 := hx1.cell q0
  replace q1 := hx1.cell q1
  replace q2 := hx1.cell q2
  obtain ⟨hr, hl, hq, fl, fr, hm, hc, hno, hg, bO, hXW⟩ := HC.out
  have RO := runnerOf_c w1 m c _ _ _ (hr.ext hx1) (hl.ext hx1) (hq.ext hx1) fl fr (by omega) (by omega)
  have HX1 := Lib.hid hx1
  clear hr hl hq fl fr hm hc hno hg bO hXW hx1
  go_wp2_with fail
  refine RO.mono ?_
  rintro e w2 ⟨b, lv1, rv1, rfl, hR2⟩
  have hh := halts_c w1 w2 b m c _ lv1 rv1 hR2 (by omega) HC.out.2.2.2.2.2.1 HC.out.2.2.2.2.2.2.2.2.1
  rw [decide_eq_false HC.out.2.2.2.2.2.2.2.1] at hh
  clear RO m0 m1 m2 q0 q1 q2
  have HR2 := Lib.hid hR2
  clear hR2
  go_wp2_with fail
  refine hh.mono ?_
  rintro e w3 ⟨rfl, hx3⟩
  have hR3 := HR2.out.ext hx3
  have hs := step_c w1 w3 b m c _ lv1 rv1 hR3 (by omega) (by omega) HC.out.2.2.2.2.2.1 HC.out.2.2.2.2.2.2.2.2.1
  obtain ⟨c', hc'⟩ : ∃ x, stepI (lookI m c) c = x := ⟨_, rfl⟩
  rw [hc'] at hs
  have HCC := Lib.hid hc'
  clear hh hR3 hx3 hc'
  go_wp2_with fail
  refine hs.mono ?_
  rintro e w4 ⟨lv', rv', rfl, hR4, _⟩
  clear hs
  have hx4 : Ext w w4 := (HC.out.2.2.2.2.2.2.2.2.2.2.trans HX1.out).trans hR4.ext0
  have bO4 := (HC.out.2.2.2.2.2.2.2.2.2.1.ext HX1.out).ext hR4.ext0
  have r0 := bO4.cell 0
  have r1 := bO4.cell 1
  have r2 := bO4.cell 2
  have z0 := bO4.frozen 0
  have z1 := bO4.frozen 1
  have z2 := bO4.frozen 2
  simp only [List.getElem?_toArray, List.getElem?_cons_zero, List.getElem?_cons_succ] at r0 r1 r2
  have HO := Lib.hid (And.intro bO4 hx4)
  cases hf : fitI c' with
  | false =>
    clear hf hR4 bO4 hx4
    go_wp2
    refine bodyPost_ret (v := .tuple #[.agg #[.int .i64 0, .slice none 0 0, .slice none 0 0], .int .i64 5]) (by simp [results, Tryz.results11, go_sem, r0, r1, r2]) rfl ⟨((HO.out.2.setCell hlo.out _).setCell hlo.out _).setCell hlo.out _, .inl rfl⟩
  | true =>
    have hf2 : c'.l.length ≤ 200 ∧ c'.r.length ≤ 200 := by simpa [fitI] using hf
    have HF := Lib.hid hf
    have CG := config_c w1 w4 b m c' _ lv' rv' hR4 (by omega) (by omega)
    clear hf hR4 bO4 hx4 r0 r1 r2 z0 z1 z2
    go_wp2_with fail
    refine CG.mono ?_
    rintro e w5 ⟨l2, r2, rfl, o1, o2, _, hx5⟩
    obtain ⟨A2, k2, rfl, _, _⟩ := id o1.ints.form
    obtain ⟨B2, j2, rfl, _, _⟩ := id o2.ints.form
    have bO5 := HO.out.1.ext hx5
    have r0 := bO5.cell 0
    have r1 := bO5.cell 1
    have r2 := bO5.cell 2
    have z0 := bO5.frozen 0
    have z1 := bO5.frozen 1
    have z2 := bO5.frozen 2
    simp only [List.getElem?_toArray, List.getElem?_cons_zero, List.getElem?_cons_succ] at r0 r1 r2
    have n1 := own_far_blk o1 bO5 (by decide)
    have n2 := own_far_blk o2 bO5 (by decide)
    have HO1 := Lib.hid (And.intro o1 (And.intro o2 (And.intro n1 (And.intro n2 hx5))))
    clear CG o1 o2 n1 n2 hx5 bO5
    go_wp2
    obtain ⟨o1, o2, n1, n2, hx5⟩ := HO1.out
    refine bodyPost_ret (v := .tuple #[.agg #[.int .i64 c'.q, .slice A2 c'.l.length k2, .slice B2 c'.r.length j2], .int .i64 0]) (by simp [results, Tryz.results11, go_sem, r0, r1, r2]) rfl ⟨(((HO.out.2.trans hx5).setCell hlo.out _).setCell hlo.out _).setCell hlo.out _, .inr (by rw [HCC.out]; exact ⟨HF.out, _, _, rfl, ownsRow_base (ownsRow_far (ownsRow_far (ownsRow_far o1 n1 _) n1 _) n1 _) HO.out.2.size, ownsRow_base (ownsRow_far (ownsRow_far (ownsRow_far o2 n2 _) n2 _) n2 _) HO.out.2.size⟩)⟩
end Go.Proofs.YtapjofbjedpmgaaGreat
end
section
namespace Go.Proofs.YtapjofbjedpmgaaGreat
open Go Go.RowKit Go.Proofs
set_option maxHeartbeats 400000
theorem r8Longs_c (w : World) (A B : Option Addr) (n c k d : Nat) :
    Calls Tryz.prog 5 #[.slice A n c, .slice B k d] w fun e w' => e = .returned (.bool (decide (1048576 < n) || decide (1048576 < k))) ∧ w = w' := by
  by_cases h1 : 1048576 < n
  · have e1 : decide ((n : Int) > 1048576) = true := by simp; omega
    have HH := Lib.hid h1
    clear h1
    go_enter Tryz.func5, Tryz.ntmps5
    go_wp2
    go_ret
    exact ⟨by simp [HH.out], rfl⟩
  · have e1 : decide ((n : Int) > 1048576) = false := by simp; omega
    have HH := Lib.hid h1
    clear h1
    by_cases h2 : 1048576 < k
    · have e2 : decide ((k : Int) > 1048576) = true := by simp; omega
      have HK := Lib.hid h2
      clear h2
      go_enter Tryz.func5, Tryz.ntmps5
      go_wp2
      go_ret
      exact ⟨by simp [HH.out, HK.out], rfl⟩
    · have e2 : decide ((k : Int) > 1048576) = false := by simp; omega
      have HK := Lib.hid h2
      clear h2
      go_enter Tryz.func5, Tryz.ntmps5
      go_wp2
      go_ret
      exact ⟨by simp [HH.out, HK.out], rfl⟩
end Go.Proofs.YtapjofbjedpmgaaGreat
end
section
set_option linter.unusedSimpArgs false
set_option linter.unusedVariables false
namespace Go.Proofs.YtapjofbjedpmgaaGreat
open Go Go.RowKit Go.Proofs
set_option maxHeartbeats 400000
theorem r8Blank_c (w : World) :
    Calls Tryz.prog 10 #[] w fun e w' => ∃ u v, e = .returned (.agg #[.int .i64 0, u, v]) ∧ OwnInts w.heap.size w' u [] ∧ OwnInts w.heap.size w' v [] ∧ Ext w w' := by
  go_enter Tryz.func10, Tryz.ntmps10
  go_wp2
  refine bodyPost_ret (v := .agg #[.int .i64 0, .slice (some ⟨w.heap.size + 1, 0, none⟩) 0 0, .slice (some ⟨w.heap.size + 1 + 1, 0, none⟩) 0 0]) (by simp [results, Tryz.results10, go_sem]) rfl ⟨_, _, rfl, ?_, ?_, ?_⟩
  · exact ⟨by simp [ivs], .inr ⟨w.heap.size + 1, 0, #[], rfl, by omega, (Blk.new _ (w.heap.size + 1) _ _ (by simp)).alloc _, by simp, by unfold maxLen; omega, rfl, by simp [ivs]⟩⟩
  · exact ⟨by simp [ivs], .inr ⟨w.heap.size + 1 + 1, 0, #[], rfl, by omega, Blk.new _ (w.heap.size + 1 + 1) _ _ (by simp), by simp, by unfold maxLen; omega, rfl, by simp [ivs]⟩⟩
  · exact ((Ext.alloc _ _).trans (Ext.alloc _ _)).trans (Ext.alloc _ _)
end Go.Proofs.YtapjofbjedpmgaaGreat
end
