/- Contracts of the reference's step of a machine from a valid configuration, and of the laws' one. Each side has at most 199 cells. -/
import Derived.Test.YtkdigfgodjjiaaaGreatConfP
import Derived.Test.YtkdigfgodjjiaaaGreatListT
set_option linter.unusedSimpArgs false
set_option linter.unusedVariables false
set_option linter.unusedSectionVars false
set_option maxHeartbeats 4000000
namespace Go.Proofs.YtkdigfgodjjiaaaGreat
open Go Go.RowKit Go.Proofs
/-- What a step gives: the next configuration and 0, or code 6. -/
def StepRes (w : World) (m : MachD) (c : ConfD) (e : Ending) (w' : World) : Prop :=
  Ext w w' ∧ ((lookI m c = noR ∧ ∃ v, e = .returned (.tuple #[v, .int .i64 6]) ∧ ConfV w' v ⟨0, [], []⟩) ∨ (¬ lookI m c = noR ∧ ∃ v, e = .returned (.tuple #[v, .int .i64 0]) ∧ ConfV w' v (cR (stepI (lookI m c) c))))
theorem stepI_lens (ru : RuleD) (c : ConfD) : (stepI ru c).l.length ≤ c.l.length + 1 ∧ (stepI ru c).r.length ≤ c.r.length - 1 + 2 := by
  unfold stepI
  split
  · have := pushL_len ru.w c.l
    exact ⟨this, by simp <;> omega⟩
  · have h1 := pushL_len ru.w (c.r.drop 1)
    have h2 := pushL_len (hdD c.l) (pushL ru.w (c.r.drop 1))
    simp only [List.length_drop] at h1 ⊢
    exact ⟨by omega, by omega⟩
theorem cok_of {m : MachD} {c : ConfD} (hm : machOk m = true) (h : confB m c = true) : ∃ k, COk m (cR c) k ∧ ∀ hk : k < m.rules.length, lookI m c = m.rules[k] := by
  obtain ⟨hg, hf, ht⟩ := conf_good h
  obtain ⟨⟨m1, m2, m3, m4⟩, _, _⟩ := machOk_five hm
  obtain ⟨k, hk, e⟩ := hg.idx hm
  have hh := hdD_of hg.r (by omega)
  have := hg.q0
  have := hg.q1
  exact ⟨k, ⟨hg.q0, by show c.q ≤ 1000; omega, m1, m2, hh.1, by have := hh.2; show hdD c.r ≤ 6; omega, hk, e, by show c.l.length ≤ 1000; omega, by show c.r.length ≤ 1000; omega⟩, fun _ => lookI_get hk e⟩
set_option maxRecDepth 20000 in
theorem StepMachine_c (m : MachD) (c : ConfD) (mv lv rv : Value) (w : World) (hr : Rules w mv m.rules) (hcl : Ints w lv c.l) (hcr : Ints w rv c.r) (hm : machOk m = true) (hc : confB m c = true) (n1 : c.l.length ≤ 199) (n2 : c.r.length ≤ 199) :
    Calls Tryz.prog 32 #[.agg #[.int .i64 m.sy, .int .i64 m.st, mv], .agg #[.int .i64 c.q, lv, rv]] w (StepRes w m c) := by
  obtain ⟨hg, hf, ht⟩ := conf_good hc
  obtain ⟨⟨m1, m2, m3, m4⟩, _, _⟩ := machOk_five hm
  obtain ⟨k, ok, hlook⟩ := cok_of hm hc
  have hstep := stepC_eq (ru := m.rules[k]'ok.kl) ht
  have hl := stepI_lens (lookI m c) c
  rw [← hlook ok.kl] at hstep
  obtain ⟨Am, cm, rfl, _, _⟩ := hr.form
  obtain ⟨Al, cl, rfl, _, _⟩ := hcl.form
  obtain ⟨Ar, cr, rfl, _, _⟩ := hcr.form
  obtain ⟨W, hW⟩ : ∃ W, ((w.alloc (.cells #[.int .i64 m.sy, .int .i64 m.st, .slice Am m.rules.length cm] 26)).alloc (.cells #[.int .i64 c.q, .slice Al c.l.length cl, .slice Ar c.r.length cr] 35)).alloc (.cells #[.int .i64 0, .slice none 0 0, .slice none 0 0] 35) = W := ⟨_, rfl⟩
  have hX : Ext w W := by rw [← hW]; exact ((Ext.alloc _ _).trans (Ext.alloc _ _)).trans (Ext.alloc _ _)
  have bM : Blk W w.heap.size 26 #[.int .i64 m.sy, .int .i64 m.st, .slice Am m.rules.length cm] := by rw [← hW]; exact ((Blk.new _ _ _ _ rfl).ext (Ext.alloc _ _)).ext (Ext.alloc _ _)
  have bC : Blk W (w.heap.size + 1) 35 #[.int .i64 c.q, .slice Al c.l.length cl, .slice Ar c.r.length cr] := by rw [← hW]; exact (Blk.new _ _ _ _ (by simp)).ext (Ext.alloc _ _)
  have bR : Blk W (w.heap.size + 1 + 1) 35 #[.int .i64 0, .slice none 0 0, .slice none 0 0] := by rw [← hW]; exact Blk.new _ _ _ _ (by simp)
  generalize hg0 : w.heap.size = g0 at *
  have mat : ∀ W', Ext W W' → MachAt W' g0 m := fun W' h => ⟨_, (bM.ext h).cell 0, (bM.ext h).cell 1, (bM.ext h).cell 2, (hr.ext hX).ext h⟩
  have cat : ∀ W', Ext W W' → ConfP W' (g0 + 1) c := fun W' h => ⟨_, _, (bC.ext h).cell 0, (bC.ext h).cell 1, (bC.ext h).cell 2, (hcl.ext hX).ext h, (hcr.ext hX).ext h⟩
  have catR : ∀ W', Ext W W' → ConfAt W' (g0 + 1) (cR c) := fun W' h => ⟨_, _, (bC.ext h).cell 0, (bC.ext h).cell 1, (bC.ext h).cell 2, (hcl.ext hX).ext h, (hcr.ext hX).ext h⟩
  clear hr hcl hcr
  go_enter Tryz.func32, Tryz.ntmps32
  go_wp2_with fail
  try rw [hW]
  clear hW
  refine (l05Is_c g0 m W (mat W (.refl _))).mono ?_
  rintro e w2 ⟨rfl, hx2⟩
  rw [hm]
  go_wp2_with fail
  have hM2 := (bM.ext hx2).cell 0
  have hM3 := (bM.ext hx2).cell 1
  simp only [List.getElem?_toArray, List.getElem?_cons_zero, List.getElem?_cons_succ] at hM2 hM3
  refine (l05Good_c g0 0 (g0 + 1) m c w2 hM2 hM3 (cat w2 hx2) (by omega) (by omega) m3 m4).mono ?_
  rintro e w3 ⟨rfl, hx3⟩
  have hX3 := hx2.trans hx3
  rw [hc]
  go_wp2_with fail
  refine (l05Halts_c g0 (g0 + 1) m (cR c) k w3 (mat w3 hX3) (catR w3 hX3) ok).mono ?_
  rintro e w4 ⟨rfl, hx4⟩
  have hX4 := hX3.trans hx4
  rw [← hlook ok.kl]
  have bR4 := bR.ext hX4
  by_cases hn : lookI m c = noR
  · have HN := Lib.hid hn
    have ed : decide (lookI m c = noR) = true := decide_eq_true hn
    rw [ed]
    clear hn ed hlook hstep hl
    have f0 := bR4.frozen 0
    have f1 := bR4.frozen 1
    have f2 := bR4.frozen 2
    have r0 := bR4.cell 0
    have r1 := bR4.cell 1
    have r2 := bR4.cell 2
    simp only [List.getElem?_toArray, List.getElem?_cons_zero, List.getElem?_cons_succ] at r0 r1 r2
    go_wp2
    refine bodyPost_ret (v := .tuple #[.agg #[.int .i64 0, .slice none 0 0, .slice none 0 0], .int .i64 6]) (by simp [results, Tryz.results32, go_sem, r0, r1, r2]) rfl ⟨?_, .inl ⟨HN.out, _, rfl, ?_⟩⟩
    · exact (((hX.trans hX4).setCell (p := ⟨g0 + 1 + 1, 0, none⟩) (by simp; omega) _).setCell (p := ⟨g0 + 1 + 1, 1, none⟩) (by simp; omega) _).setCell (p := ⟨g0 + 1 + 1, 2, none⟩) (by simp; omega) _
    · exact ⟨.slice none 0 0, .slice none 0 0, 0, 0, rfl, ⟨by simp [ivs], .inl ⟨rfl, rfl⟩⟩, ⟨by simp [ivs], .inl ⟨rfl, rfl⟩⟩⟩
  · have HN := Lib.hid hn
    have ed : decide (lookI m c = noR) = false := decide_eq_false hn
    rw [ed]
    clear hn ed
    go_wp2_with fail
    refine (l05Step_c g0 (g0 + 1) m (cR c) k w4 (mat w4 hX4) (catR w4 hX4) ok n1).mono ?_
    rintro e w5 ⟨v, rfl, hv, hx5⟩
    rw [← hlook ok.kl] at hv ⊢
    have hfit : (decide ((stepC (lookI m c) (cR c)).l.length ≤ 200) && decide ((stepC (lookI m c) (cR c)).r.length ≤ 200)) = true := by
      rw [hstep]
      have e1 : (cR (stepI (lookI m c) c)).l.length = (stepI (lookI m c) c).l.length := rfl
      have e2 : (cR (stepI (lookI m c) c)).r.length = (stepI (lookI m c) c).r.length := rfl
      simp only [Bool.and_eq_true, decide_eq_true_eq]
      omega
    rw [hfit, hstep] at *
    have HS := Lib.hid hstep
    clear hfit hl hlook hstep
    obtain ⟨lv', rv', bl, br, rfl, ol, orr⟩ := hv
    obtain ⟨Al', cl', rfl, _, _⟩ := ol.ints.form
    obtain ⟨Ar', cr', rfl, _, _⟩ := orr.ints.form
    have bR5 := bR4.ext hx5
    have eA := Ext.alloc w5 (.cells #[.int .i64 (cR (stepI (lookI m c) c)).q, .slice Al' (cR (stepI (lookI m c) c)).l.length cl', .slice Ar' (cR (stepI (lookI m c) c)).r.length cr'] 35)
    have f0 := (bR5.ext eA).frozen 0
    have f1 := (bR5.ext eA).frozen 1
    have f2 := (bR5.ext eA).frozen 2
    have r0 := (bR5.ext eA).cell 0
    have r1 := (bR5.ext eA).cell 1
    have r2 := (bR5.ext eA).cell 2
    simp only [List.getElem?_toArray, List.getElem?_cons_zero, List.getElem?_cons_succ] at r0 r1 r2
    have hX5 := (hX.trans hX4).trans hx5
    generalize HC : cR (stepI (lookI m c) c) = c' at *
    have HC' := Lib.hid HC
    clear HC
    go_wp2
    have hD := conf_done (w := w) (n := c'.q) ((hX5.trans eA)) (g := g0 + 1 + 1) (by omega) (bR5.ext eA) (ol.ext eA) (orr.ext eA)
    refine bodyPost_ret (v := .tuple #[.agg #[.int .i64 c'.q, .slice Al' c'.l.length cl', .slice Ar' c'.r.length cr'], .int .i64 0]) (by simp [results, Tryz.results32, go_sem, r0, r1, r2]) rfl ⟨hD.2, .inr ⟨HN.out, _, rfl, ?_⟩⟩
    rw [HC'.out]
    exact hD.1
/-- What the laws' step gives. -/
def BStepRes (w : World) (m : MachD) (c : ConfD) (e : Ending) (w' : World) : Prop :=
  Ext w w' ∧ ((lookI m c = noR ∧ ∃ v c', e = .returned (.tuple #[v, .bool false]) ∧ ConfV w' v c') ∨ (¬ lookI m c = noR ∧ ∃ v, e = .returned (.tuple #[v, .bool true]) ∧ ConfV w' v (cR (stepI (lookI m c) c))))
set_option maxRecDepth 20000 in
theorem b10Step_c (m : MachD) (c : ConfD) (mv lv rv : Value) (w : World) (hr : Rules w mv m.rules) (hcl : Ints w lv c.l) (hcr : Ints w rv c.r) (hm : machOk m = true) (hc : confB m c = true) (n1 : c.l.length ≤ 199) (n2 : c.r.length ≤ 199) :
    Calls Tryz.prog 12 #[.agg #[.int .i64 m.sy, .int .i64 m.st, mv], .agg #[.int .i64 c.q, lv, rv]] w (BStepRes w m c) := by
  obtain ⟨Am, cm, rfl, _, _⟩ := hr.form
  obtain ⟨Al, cl, rfl, _, _⟩ := hcl.form
  obtain ⟨Ar, cr, rfl, _, _⟩ := hcr.form
  obtain ⟨W, hW⟩ : ∃ W, ((w.alloc (.cells #[.int .i64 m.sy, .int .i64 m.st, .slice Am m.rules.length cm] 26)).alloc (.cells #[.int .i64 c.q, .slice Al c.l.length cl, .slice Ar c.r.length cr] 35)).alloc (.cells #[.int .i64 0, .slice none 0 0, .slice none 0 0] 35) = W := ⟨_, rfl⟩
  have hX : Ext w W := by rw [← hW]; exact ((Ext.alloc _ _).trans (Ext.alloc _ _)).trans (Ext.alloc _ _)
  have bM : Blk W w.heap.size 26 #[.int .i64 m.sy, .int .i64 m.st, .slice Am m.rules.length cm] := by rw [← hW]; exact ((Blk.new _ _ _ _ rfl).ext (Ext.alloc _ _)).ext (Ext.alloc _ _)
  have bC : Blk W (w.heap.size + 1) 35 #[.int .i64 c.q, .slice Al c.l.length cl, .slice Ar c.r.length cr] := by rw [← hW]; exact (Blk.new _ _ _ _ (by simp)).ext (Ext.alloc _ _)
  have bR : Blk W (w.heap.size + 1 + 1) 35 #[.int .i64 0, .slice none 0 0, .slice none 0 0] := by rw [← hW]; exact Blk.new _ _ _ _ (by simp)
  generalize hg0 : w.heap.size = g0 at *
  have m0 := bM.cell 0
  have m1 := bM.cell 1
  have m2 := bM.cell 2
  have c0 := bC.cell 0
  have c1 := bC.cell 1
  have c2 := bC.cell 2
  simp only [List.getElem?_toArray, List.getElem?_cons_zero, List.getElem?_cons_succ] at m0 m1 m2 c0 c1 c2
  have hst := StepMachine_c m c _ _ _ W (hr.ext hX) (hcl.ext hX) (hcr.ext hX) hm hc n1 n2
  go_enter Tryz.func12, Tryz.ntmps12
  go_wp2_with fail
  try rw [hW]
  clear hW m0 m1 m2 c0 c1 c2
  refine hst.mono ?_
  rintro e w2 ⟨hx2, hres⟩
  have bR2 := bR.ext hx2
  have hX2 := hX.trans hx2
  rcases hres with ⟨hn, v, rfl, hv⟩ | ⟨hn, v, rfl, hv⟩
  · have HN := Lib.hid hn
    clear hn
    obtain ⟨lv', rv', bl, br, rfl, ol, orr⟩ := hv
    obtain ⟨Al', cl', rfl, _, _⟩ := ol.ints.form
    obtain ⟨Ar', cr', rfl, _, _⟩ := orr.ints.form
    generalize (⟨0, [], []⟩ : ConfR) = c' at *
    have eA := Ext.alloc w2 (.cells #[.int .i64 c'.q, .slice Al' c'.l.length cl', .slice Ar' c'.r.length cr'] 35)
    have f0 := (bR2.ext eA).frozen 0
    have f1 := (bR2.ext eA).frozen 1
    have f2 := (bR2.ext eA).frozen 2
    have r0 := (bR2.ext eA).cell 0
    have r1 := (bR2.ext eA).cell 1
    have r2 := (bR2.ext eA).cell 2
    simp only [List.getElem?_toArray, List.getElem?_cons_zero, List.getElem?_cons_succ] at r0 r1 r2
    have hD := conf_done (w := w) (n := c'.q) ((hX2.trans eA)) (g := g0 + 1 + 1) (by omega) (bR2.ext eA) (ol.ext eA) (orr.ext eA)
    go_wp2
    refine bodyPost_ret (v := .tuple #[.agg #[.int .i64 c'.q, .slice Al' c'.l.length cl', .slice Ar' c'.r.length cr'], .bool false]) (by simp [results, Tryz.results12, go_sem, r0, r1, r2]) rfl ⟨hD.2, .inl ⟨HN.out, _, _, rfl, hD.1⟩⟩
  · have HN := Lib.hid hn
    clear hn
    obtain ⟨lv', rv', bl, br, rfl, ol, orr⟩ := hv
    obtain ⟨Al', cl', rfl, _, _⟩ := ol.ints.form
    obtain ⟨Ar', cr', rfl, _, _⟩ := orr.ints.form
    obtain ⟨c', HC⟩ : ∃ c', c' = cR (stepI (lookI m c) c) := ⟨_, rfl⟩
    rw [← HC] at ol orr
    have HC' := Lib.hid HC
    clear HC
    have eA := Ext.alloc w2 (.cells #[.int .i64 c'.q, .slice Al' c'.l.length cl', .slice Ar' c'.r.length cr'] 35)
    have f0 := (bR2.ext eA).frozen 0
    have f1 := (bR2.ext eA).frozen 1
    have f2 := (bR2.ext eA).frozen 2
    have r0 := (bR2.ext eA).cell 0
    have r1 := (bR2.ext eA).cell 1
    have r2 := (bR2.ext eA).cell 2
    simp only [List.getElem?_toArray, List.getElem?_cons_zero, List.getElem?_cons_succ] at r0 r1 r2
    have hD := conf_done (w := w) (n := c'.q) ((hX2.trans eA)) (g := g0 + 1 + 1) (by omega) (bR2.ext eA) (ol.ext eA) (orr.ext eA)
    rw [← HC'.out]
    go_wp2
    refine bodyPost_ret (v := .tuple #[.agg #[.int .i64 c'.q, .slice Al' c'.l.length cl', .slice Ar' c'.r.length cr'], .bool true]) (by simp [results, Tryz.results12, go_sem, r0, r1, r2]) rfl ⟨hD.2, .inr ⟨HN.out, _, rfl, ?_⟩⟩
    rw [← HC'.out]
    exact hD.1
end Go.Proofs.YtkdigfgodjjiaaaGreat
