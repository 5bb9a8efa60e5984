/- Contracts of the law's blank configuration and of its runs of so many steps. -/
import Derived.Test.YtpdnmhhieokogaaShJ
set_option linter.unusedSimpArgs false
set_option linter.unusedVariables false
namespace Go.Proofs.Ytpdnmhhieokogaa
open Go Go.RowKit Go.Proofs
set_option maxHeartbeats 400000
theorem r8Blank_c (w : World) :
    Calls Try.prog 9 #[] w fun e w' => ∃ u v, e = .returned (.agg #[.int .i64 0, u, v]) ∧ OwnInts w.heap.size w' u [] ∧ OwnInts w.heap.size w' v [] ∧ Ext w w' := by
  go_enter Try.func9, Try.ntmps9
  go_wp2
  refine bodyPost_ret (v := .agg #[.int .i64 0, .slice (some ⟨w.heap.size + 1, 0, none⟩) 0 0, .slice (some ⟨w.heap.size + 1 + 1, 0, none⟩) 0 0]) (by simp [results, Try.results9, go_sem]) rfl ⟨_, _, rfl, ?_, ?_, ?_⟩
  · exact ⟨by simp [ivs], .inr ⟨w.heap.size + 1, 0, #[], rfl, by omega, (Blk.new _ (w.heap.size + 1) _ _ (by simp)).alloc _, by simp, by unfold maxLen; omega, rfl, by simp [ivs]⟩⟩
  · exact ⟨by simp [ivs], .inr ⟨w.heap.size + 1 + 1, 0, #[], rfl, by omega, Blk.new _ (w.heap.size + 1 + 1) _ _ (by simp), by simp, by unfold maxLen; omega, rfl, by simp [ivs]⟩⟩
  · exact ((Ext.alloc _ _).trans (Ext.alloc _ _)).trans (Ext.alloc _ _)
def AfterRes (w : World) (c : ConfD) (e : Ending) (w' : World) : Prop :=
  ∃ l2 r2, e = .returned (.tuple #[.agg #[.int .i64 c.q, l2, r2], .bool true]) ∧ OwnInts w.heap.size w' l2 c.l ∧ OwnInts w.heap.size w' r2 c.r ∧ Ext w w'
set_option maxRecDepth 20000 in
set_option maxHeartbeats 2000000 in
theorem r8After_c (w : World) (m : MachD) (c : ConfD) (mv lv qv : Value) (N : Nat) (hr : Rules w mv m.rules) (hl : Ints w lv c.l) (hq : Ints w qv c.r) (fl : Flat lv) (fr : Flat qv) (hm : machOk m = true) (hc : confB m c = true) (h1 : 1 ≤ N) (hN : N ≤ 20000) (hrun : RunsTo m c N) :
    Calls Try.prog 8 #[.agg #[.int .i64 m.sy, .int .i64 m.st, mv], .agg #[.int .i64 c.q, lv, qv], .int .i64 N] w (AfterRes w (cfgI m c N)) := by
  obtain ⟨Am, cm, rfl, _, _⟩ := id hr.form
  obtain ⟨Al, cl, rfl, _, _⟩ := id hl.form
  obtain ⟨Ar, cr, rfl, _, _⟩ := id hq.form
  obtain ⟨W, hW⟩ : ∃ W, W = ((w.alloc (.cells #[.int .i64 m.sy, .int .i64 m.st, .slice Am m.rules.length cm] 26)).alloc (.cells #[.int .i64 c.q, .slice Al c.l.length cl, .slice Ar c.r.length cr] 36)).alloc (.cells #[.int .i64 0, .slice none 0 0, .slice none 0 0] 36) := ⟨_, rfl⟩
  have hX : Ext w W := by rw [hW]; exact ((Ext.alloc _ _).trans (Ext.alloc _ _)).trans (Ext.alloc _ _)
  obtain ⟨g, hg⟩ : ∃ g, g = w.heap.size + 1 + 1 := ⟨_, rfl⟩
  have bR : Blk W g 36 #[.int .i64 0, .slice none 0 0, .slice none 0 0] := by rw [hW, hg]; exact Blk.new _ _ _ _ (by simp)
  have HG : Hid (w.heap.size ≤ g) := Lib.hid (by omega)
  have h0 : ((N : Int) == 0) = false := by simp; omega
  have HM := Lib.hid hm
  have HC := Lib.hid hc
  have HRUN := Lib.hid hrun
  have HR := Lib.hid (hr.ext hX)
  have HL := Lib.hid (hl.ext hX)
  have HQ := Lib.hid (hq.ext hX)
  have HFL := Lib.hid fl
  have HFR := Lib.hid fr
  have HX := Lib.hid hX
  clear hr hl hq fl fr hm hc hrun hX
  go_enter Try.func8, Try.ntmps8
  go_wp2_with fail
  rw [← hW, ← hg]
  clear hW hg
  refine (RunMachine_c _ m c _ _ N W HR.out HL.out HQ.out HFL.out HFR.out).mono ?_
  rintro e w2 ⟨hx2, h | h | h | h⟩
  · exfalso
    rw [HM.out, HC.out] at h
    exact absurd h.1 (by decide)
  · exfalso
    have : inB (N : Int) 1 20000 = true := by simp [inB]; omega
    rw [this] at h
    exact absurd h.2.1 (by decide)
  · exfalso
    obtain ⟨_, _, i, hF, _⟩ := h
    exact hF.never (by simpa using HRUN.out)
  · obtain ⟨_, _, i, hE, l2, r2, rfl, o1, o2, _⟩ := h
    have hiN : i = N := hE.exact (by simpa using HRUN.out)
    subst hiN
    obtain ⟨C, hC⟩ : ∃ C, cfgI m c i = C := ⟨_, rfl⟩
    rw [hC] at o1 o2
    rw [hC]
    obtain ⟨y, hy⟩ : ∃ y, decide (lookI m C = noR) = y := ⟨_, rfl⟩
    rw [hy]
    obtain ⟨A2, k2, rfl, _, _⟩ := o1.ints.form
    obtain ⟨B2, j2, rfl, _, _⟩ := o2.ints.form
    have b2 := bR.ext hx2
    have hg2 := b2.lt
    have r0 := b2.cell
    have f0 := b2.frozen
    have n1 := own_far_blk o1 b2 (by decide)
    have n2 := own_far_blk o2 b2 (by decide)
    obtain ⟨S, hS⟩ : ∃ S, S = ((w2.setCell ⟨g, 0, none⟩ (.int .i64 C.q)).setCell ⟨g, 1, none⟩ (.slice A2 C.l.length k2)).setCell ⟨g, 2, none⟩ (.slice B2 C.r.length j2) := ⟨_, rfl⟩
    have eB := Ext.alloc S (.cells #[.int .i64 C.q, .slice A2 C.l.length k2, .slice B2 C.r.length j2] 36)
    have hXX := HX.out.trans hx2
    have HES : Hid (Ext w (S.alloc (.cells #[.int .i64 C.q, .slice A2 C.l.length k2, .slice B2 C.r.length j2] 36))) := Lib.hid (by
      refine Ext.trans ?_ eB
      rw [hS]
      exact ((hXX.setCell HG.out _).setCell HG.out _).setCell HG.out _)
    have HO1 : Hid (OwnInts w.heap.size (S.alloc (.cells #[.int .i64 C.q, .slice A2 C.l.length k2, .slice B2 C.r.length j2] 36)) (.slice A2 C.l.length k2) C.l) := Lib.hid (by
      refine ownsRow_ext ?_ eB
      rw [hS]
      exact ownsRow_base (ownsRow_far (ownsRow_far (ownsRow_far o1 n1 _) n1 _) n1 _) HX.out.size)
    have HO2 : Hid (OwnInts w.heap.size (S.alloc (.cells #[.int .i64 C.q, .slice A2 C.l.length k2, .slice B2 C.r.length j2] 36)) (.slice B2 C.r.length j2) C.r) := Lib.hid (by
      refine ownsRow_ext ?_ eB
      rw [hS]
      exact ownsRow_base (ownsRow_far (ownsRow_far (ownsRow_far o2 n2 _) n2 _) n2 _) HX.out.size)
    have HEE : Hid (∀ i, (S.alloc (.cells #[.int .i64 C.q, .slice A2 C.l.length k2, .slice B2 C.r.length j2] 36)).cell? ⟨g, i, none⟩ = _) := Lib.hid (Blk.cell (Blk.alloc (t := 36) (cs := #[.int .i64 C.q, .slice A2 C.l.length k2, .slice B2 C.r.length j2]) (by rw [hS]; exact ((b2.set_ 0 _).set_ 1 _).set_ 2 _) _))
    have HSS := Lib.hid hS
    have HE := Lib.hid hE
    have HCC := Lib.hid hC
    clear hE hC hy o1 o2 b2 bR n1 n2 hS eB hXX
    go_wp2
    rw [← HSS.out]
    exact bodyPost_ret (v := .tuple #[.agg #[.int .i64 C.q, .slice A2 C.l.length k2, .slice B2 C.r.length j2], .bool true]) (by
      have e0 := HEE.out
      simp [results, Try.results8, go_sem, e0]) rfl (by rw [HCC.out]; exact ⟨_, _, rfl, HO1.out, HO2.out, HES.out⟩)
end Go.Proofs.Ytpdnmhhieokogaa
