/- Contracts on the abstraction of a configuration: what it is, and whether it is reached. -/
import Derived.Test.YtkdigfgodjjiaaaGreatAbI
import Derived.Test.YtkdigfgodjjiaaaGreatConfP
set_option linter.unusedSimpArgs false
set_option linter.unusedVariables false
set_option linter.unusedSectionVars false
set_option maxHeartbeats 4000000
namespace Go.Proofs.YtkdigfgodjjiaaaGreat
open Go Go.RowKit Go.Proofs Go.Maps
/-- Five blocks: a machine, two automata, a configuration, and all of the first three in one. -/
theorem boxes5 (w : World) (m : MachD) (L R : DfaD) (c : ConfD) (mv uv tv lv qv : Value) : ∃ W, ((((w.alloc (.cells #[.int .i64 m.sy, .int .i64 m.st, mv] 26)).alloc (.cells #[.int .i64 L.st, uv] 30)).alloc (.cells #[.int .i64 R.st, tv] 30)).alloc (.cells #[.int .i64 c.q, lv, qv] 35)).alloc (.cells #[.int .i64 m.sy, .int .i64 m.st, mv, .int .i64 L.st, uv, .int .i64 R.st, tv] 62) = W ∧
    Ext w W ∧ Blk W w.heap.size 26 #[.int .i64 m.sy, .int .i64 m.st, mv] ∧ Blk W (w.heap.size + 1 + 1 + 1) 35 #[.int .i64 c.q, lv, qv] ∧ Blk W (w.heap.size + 1 + 1 + 1 + 1) 62 #[.int .i64 m.sy, .int .i64 m.st, mv, .int .i64 L.st, uv, .int .i64 R.st, tv] := by
  refine ⟨_, rfl, ((((Ext.alloc _ _).trans (Ext.alloc _ _)).trans (Ext.alloc _ _)).trans (Ext.alloc _ _)).trans (Ext.alloc _ _), ?_, ?_, ?_⟩
  · exact ((((Blk.new _ _ _ _ rfl).ext (Ext.alloc _ _)).ext (Ext.alloc _ _)).ext (Ext.alloc _ _)).ext (Ext.alloc _ _)
  · exact (Blk.new _ _ _ _ (by simp)).ext (Ext.alloc _ _)
  · exact Blk.new _ _ _ _ (by simp)
theorem outInts {w : World} {g : Nat} {a : Outl} (h : Blk w g 68 #[.int .i64 a.1, .int .i64 a.2.1, .int .i64 a.2.2.1, .int .i64 a.2.2.2]) : Ints w (.slice (some ⟨g, 0, none⟩) 4 4) [a.1, a.2.1, a.2.2.1, a.2.2.2] := by
  refine ⟨_, 4, rfl, by simp, by omega, by simp, fun _ => ⟨g, 0, rfl, fun j hj => ?_⟩⟩
  rw [Nat.zero_add, h.cell j]
  simp [ivs]
def outL (a : Outl) : List Int := [a.1, a.2.1, a.2.2.1, a.2.2.2]
set_option maxRecDepth 20000 in
theorem AbstractOf_c (m : MachD) (L R : DfaD) (c : ConfD) (mv uv tv lv qv : Value) (w : World) (hr : Rules w mv m.rules) (hu : Ints w uv L.nx) (ht : Ints w tv R.nx) (hcl : Ints w lv c.l) (hcr : Ints w qv c.r) (f1 : Flat lv) (f2 : Flat qv)
    (hm : machOk m = true) (hL : dfaOk L m.sy = true) (hR : dfaOk R m.sy = true) (hc : confB m c = true) :
    Calls Tryz.prog 9 #[.agg #[.int .i64 m.sy, .int .i64 m.st, mv], .agg #[.int .i64 L.st, uv], .agg #[.int .i64 R.st, tv], .agg #[.int .i64 c.q, lv, qv]] w fun e w' => ∃ u, e = .returned (.tuple #[u, .int .i64 0]) ∧ Ints w' u (outL (ofA m L R c)) ∧ Ext w w' := by
  obtain ⟨hg, hf', _⟩ := conf_good hc
  obtain ⟨⟨m1, m2, m3, m4⟩, _, _⟩ := machOk_five hm
  obtain ⟨Am, cm, rfl, _, _⟩ := hr.form
  obtain ⟨Au, cu, rfl, _, _⟩ := hu.form
  obtain ⟨At, ct, rfl, _, _⟩ := ht.form
  obtain ⟨Al, cl, rfl, _, _⟩ := hcl.form
  obtain ⟨Aq, cq, rfl, _, _⟩ := hcr.form
  obtain ⟨W, hW, hX, bM, bC, bA⟩ := boxes5 w m L R c (.slice Am m.rules.length cm) (.slice Au L.nx.length cu) (.slice At R.nx.length ct) (.slice Al c.l.length cl) (.slice Aq c.r.length cq)
  generalize hg0 : w.heap.size = g0 at *
  have hval := valid_autos_c _ m L R W ⟨_, _, _, rfl, hr.ext hX, hu.ext hX, ht.ext hX⟩ hm hL hR
  have a0 := bA.cell 0
  have a1 := bA.cell 1
  have a2 := bA.cell 2
  have a3 := bA.cell 3
  have a4 := bA.cell 4
  have a5 := bA.cell 5
  have a6 := bA.cell 6
  simp only [List.getElem?_toArray, List.getElem?_cons_zero, List.getElem?_cons_succ] at a0 a1 a2 a3 a4 a5 a6
  go_enter Tryz.func9, Tryz.ntmps9
  go_wp2_with fail
  clear hW a0 a1 a2 a3 a4 a5 a6
  refine hval.mono ?_
  rintro e w2 ⟨rfl, hx2⟩
  have m0 := (bM.ext hx2).cell 0
  have m1' := (bM.ext hx2).cell 1
  have m2' := (bM.ext hx2).cell 2
  have c0 := (bC.ext hx2).cell 0
  have c1 := (bC.ext hx2).cell 1
  have c2 := (bC.ext hx2).cell 2
  simp only [List.getElem?_toArray, List.getElem?_cons_zero, List.getElem?_cons_succ] at m0 m1' m2' c0 c1 c2
  have hX2 := hX.trans hx2
  go_wp2_with fail
  refine (configOf_c _ _ m c w2 ⟨_, rfl, hr.ext hX2⟩ ⟨_, _, rfl, hcl.ext hX2, hcr.ext hX2⟩ m1 m2 m3 m4).mono ?_
  rintro e w3 ⟨rfl, hx3⟩
  rw [hc]
  have bC3 := (bC.ext hx2).ext hx3
  have bA3 := (bA.ext hx2).ext hx3
  clear m0 m1' m2' c0 c1 c2
  have c0 := bC3.cell 0
  have c1 := bC3.cell 1
  have c2 := bC3.cell 2
  have a0 := bA3.cell 0
  have a1 := bA3.cell 1
  have a2 := bA3.cell 2
  have a3 := bA3.cell 3
  have a4 := bA3.cell 4
  have a5 := bA3.cell 5
  have a6 := bA3.cell 6
  simp only [List.getElem?_toArray, List.getElem?_cons_zero, List.getElem?_cons_succ] at c0 c1 c2 a0 a1 a2 a3 a4 a5 a6
  have hX3 := hX2.trans hx3
  go_wp2_with fail
  refine (of_c _ _ _ m L R c w3 ⟨_, _, _, rfl, hr.ext hX3, hu.ext hX3, ht.ext hX3⟩ hm hL hR (hcl.ext hX3) (hcr.ext hX3) f1 f2 (by omega) (by omega) hg.l hg.r).mono ?_
  rintro e w4 ⟨rfl, hx4⟩
  simp only [outV]
  have hB : Blk (w4.alloc (.cells #[.int .i64 (ofA m L R c).1, .int .i64 (ofA m L R c).2.1, .int .i64 (ofA m L R c).2.2.1, .int .i64 (ofA m L R c).2.2.2] 68)) w4.heap.size 68 #[.int .i64 (ofA m L R c).1, .int .i64 (ofA m L R c).2.1, .int .i64 (ofA m L R c).2.2.1, .int .i64 (ofA m L R c).2.2.2] := Blk.new _ _ _ _ rfl
  go_wp2
  refine bodyPost_ret (v := .tuple #[.slice (some ⟨w4.heap.size, 0, none⟩) 4 4, .int .i64 0]) (by simp [results, Tryz.results9, go_sem]) rfl ⟨_, rfl, outInts hB, (hX3.trans hx4).trans (Ext.alloc _ _)⟩
set_option maxRecDepth 20000 in
theorem AcceptsConfig_c (m : MachD) (L R : DfaD) (c : ConfD) (mv uv tv lv qv : Value) (w : World) (hr : Rules w mv m.rules) (hu : Ints w uv L.nx) (ht : Ints w tv R.nx) (hcl : Ints w lv c.l) (hcr : Ints w qv c.r) (f1 : Flat lv) (f2 : Flat qv)
    (hm : machOk m = true) (hL : dfaOk L m.sy = true) (hR : dfaOk R m.sy = true) (hc : confB m c = true) (hn : ∀ K, (rndA m L R K).length ≤ 3000) :
    Calls Tryz.prog 10 #[.agg #[.int .i64 m.sy, .int .i64 m.st, mv], .agg #[.int .i64 L.st, uv], .agg #[.int .i64 R.st, tv], .agg #[.int .i64 c.q, lv, qv]] w fun e w' => ∃ K, (rndA m L R K).length ≤ K ∧ e = .returned (.tuple #[.bool (decide (ofA m L R c ∈ rndA m L R K)), .int .i64 0]) ∧ Ext w w' := by
  obtain ⟨hg, hf', _⟩ := conf_good hc
  obtain ⟨⟨m1, m2, m3, m4⟩, _, _⟩ := machOk_five hm
  obtain ⟨Am, cm, rfl, _, _⟩ := hr.form
  obtain ⟨Au, cu, rfl, _, _⟩ := hu.form
  obtain ⟨At, ct, rfl, _, _⟩ := ht.form
  obtain ⟨Al, cl, rfl, _, _⟩ := hcl.form
  obtain ⟨Aq, cq, rfl, _, _⟩ := hcr.form
  obtain ⟨W, hW, hX, bM, bC, bA⟩ := boxes5 w m L R c (.slice Am m.rules.length cm) (.slice Au L.nx.length cu) (.slice At R.nx.length ct) (.slice Al c.l.length cl) (.slice Aq c.r.length cq)
  generalize hg0 : w.heap.size = g0 at *
  have hval := valid_autos_c _ m L R W ⟨_, _, _, rfl, hr.ext hX, hu.ext hX, ht.ext hX⟩ hm hL hR
  have a0 := bA.cell 0
  have a1 := bA.cell 1
  have a2 := bA.cell 2
  have a3 := bA.cell 3
  have a4 := bA.cell 4
  have a5 := bA.cell 5
  have a6 := bA.cell 6
  simp only [List.getElem?_toArray, List.getElem?_cons_zero, List.getElem?_cons_succ] at a0 a1 a2 a3 a4 a5 a6
  go_enter Tryz.func10, Tryz.ntmps10
  go_wp2_with fail
  clear hW a0 a1 a2 a3 a4 a5 a6
  refine hval.mono ?_
  rintro e w2 ⟨rfl, hx2⟩
  have m0 := (bM.ext hx2).cell 0
  have m1' := (bM.ext hx2).cell 1
  have m2' := (bM.ext hx2).cell 2
  have c0 := (bC.ext hx2).cell 0
  have c1 := (bC.ext hx2).cell 1
  have c2 := (bC.ext hx2).cell 2
  simp only [List.getElem?_toArray, List.getElem?_cons_zero, List.getElem?_cons_succ] at m0 m1' m2' c0 c1 c2
  have hX2 := hX.trans hx2
  go_wp2_with fail
  refine (configOf_c _ _ m c w2 ⟨_, rfl, hr.ext hX2⟩ ⟨_, _, rfl, hcl.ext hX2, hcr.ext hX2⟩ m1 m2 m3 m4).mono ?_
  rintro e w3 ⟨rfl, hx3⟩
  rw [hc]
  have bC3 := (bC.ext hx2).ext hx3
  have bA3 := (bA.ext hx2).ext hx3
  clear m0 m1' m2' c0 c1 c2
  have c0 := bC3.cell 0
  have c1 := bC3.cell 1
  have c2 := bC3.cell 2
  have a0 := bA3.cell 0
  have a1 := bA3.cell 1
  have a2 := bA3.cell 2
  have a3 := bA3.cell 3
  have a4 := bA3.cell 4
  have a5 := bA3.cell 5
  have a6 := bA3.cell 6
  simp only [List.getElem?_toArray, List.getElem?_cons_zero, List.getElem?_cons_succ] at c0 c1 c2 a0 a1 a2 a3 a4 a5 a6
  have hX3 := hX2.trans hx3
  go_wp2_with fail
  refine (closure_c _ m L R w3 ⟨_, _, _, rfl, hr.ext hX3, hu.ext hX3, ht.ext hX3⟩ hm hL hR).mono ?_
  rintro e w4 ⟨hx4, hres⟩
  obtain ⟨K, ov, hK, _, hown, rfl⟩ : ∃ K ov, (rndA m L R K).length ≤ K ∧ (rndA m L R K).length ≤ 3000 ∧ w4.ownsRow w3.heap.size 68 4 ov (rndA m L R K).length (ovs (rndA m L R K)) ∧ e = .returned (.tuple #[ov, .bool (rulA m L R K), .bool true]) := by
    rcases hres with h | ⟨K, h, _⟩
    · exact h
    · exact absurd (hn K) (by omega)
  have bC4 := bC3.ext hx4
  have bA4 := bA3.ext hx4
  clear c0 c1 c2 a0 a1 a2 a3 a4 a5 a6
  have c0 := bC4.cell 0
  have c1 := bC4.cell 1
  have c2 := bC4.cell 2
  have a0 := bA4.cell 0
  have a1 := bA4.cell 1
  have a2 := bA4.cell 2
  have a3 := bA4.cell 3
  have a4 := bA4.cell 4
  have a5 := bA4.cell 5
  have a6 := bA4.cell 6
  simp only [List.getElem?_toArray, List.getElem?_cons_zero, List.getElem?_cons_succ] at c0 c1 c2 a0 a1 a2 a3 a4 a5 a6
  have hX4 := hX3.trans hx4
  obtain ⟨n, hnn⟩ : ∃ n, n = (rndA m L R K).length := ⟨_, rfl⟩
  have HK := Lib.hid hK
  clear hK hnn
  go_wp2_with fail
  refine (of_c _ _ _ m L R c w4 ⟨_, _, _, rfl, hr.ext hX4, hu.ext hX4, ht.ext hX4⟩ hm hL hR (hcl.ext hX4) (hcr.ext hX4) f1 f2 (by omega) (by omega) hg.l hg.r).mono ?_
  rintro e w5 ⟨rfl, hx5⟩
  go_wp2_with fail
  refine (containsO_c ov (rndA m L R K) (ofA m L R c) w3.heap.size w5 (ownsRow_ext hown hx5)).mono ?_
  rintro e w6 ⟨rfl, hx6⟩
  go_wp2
  refine bodyPost_ret (v := .tuple #[.bool (decide (ofA m L R c ∈ rndA m L R K)), .int .i64 0]) (by simp [results, Tryz.results10, go_sem]) rfl ⟨K, HK.out, rfl, (hX4.trans hx5).trans hx6⟩
end Go.Proofs.YtkdigfgodjjiaaaGreat
