/- Contracts of the reference's validity of a configuration with several tapes, of its run where both are valid, and of its comparison of equal configurations.
Contract of the reference's copy of a rule with several tapes with its states moved. -/
import Derived.Test.YtkbpchdncljlbaaU35
import Derived.Test.YtkbpchdncljlbaaU31
section
set_option linter.unusedVariables false
set_option linter.unusedSimpArgs false
namespace Go.Proofs.Ytkbpchdncljlbaa
open Go Go.RowKit Go.Proofs Go.Maps
set_option maxHeartbeats 400000
set_option maxRecDepth 20000 in
set_option maxHeartbeats 2000000 in
theorem l06Good_c (bm bc : Nat) (m : MultiD) (c : MConfD) (rv tv : Value) (w : World) (hm : multiOk m = true) (hq : inB c.q 0 (m.st - 1) = true) (hn : (c.tapes.length : Int) = m.tp) (hts : c.tapes.all (tapeOk m) = true)
    (hb : Blk w bm 29 #[.int .i64 m.tp, .int .i64 m.sy, .int .i64 m.st, rv]) (q0 : w.cell? ⟨bc, 0, none⟩ = some (.int .i64 c.q)) (q1 : w.cell? ⟨bc, 1, none⟩ = some tv) (hT : Tapes w tv c.tapes) :
    Calls Try.prog 50 #[.pointer (some ⟨bm, 0, none⟩), .pointer (some ⟨bc, 0, none⟩)] w fun e w' => e = .returned (.bool true) ∧ Ext w w' := by
  obtain ⟨⟨t1, t2⟩, ⟨y1, y2⟩, ⟨s1, s2⟩, _⟩ := multi_all hm
  obtain ⟨A, ct, rfl, ht1, ht2⟩ := hT.form
  have m0 := hb.cell 0
  have m1 := hb.cell 1
  have m2 := hb.cell 2
  simp only [List.getElem?_toArray, List.getElem?_cons_zero, List.getElem?_cons_succ] at m0 m1 m2
  have x0 := cellR m0
  have x2 := cellR m2
  have z0 := cellR q0
  have z1 := cellR q1
  have WI := fun w => l00In_c c.q 0 (m.st - 1) w
  have hq' : (decide (0 ≤ c.q) && decide (c.q ≤ m.st - 1)) = true := hq
  have hwq : IntKind.i64.wrap (m.st - 1) = m.st - 1 := IntWalk.i64_in _ (by omega)
  have btp : ((c.tapes.length : Int) != m.tp) = false := by simp [hn]
  rw [hq] at WI
  have HTS := Lib.hid hts
  have HN : Hid ((c.tapes.length : Int) = m.tp) := hn
  clear hq hq' hts hn hm
  go_enter Try.func50, Try.ntmps50
  go_wp2_with fail
  refine wp_region_ext (by kernel_rfl) (by kernel_rfl) ?_
  repeat (go_big_quiet_step ((go_at_call 51; exact Calls.sameR (WI _))))
  refine wpQuiet_nil ?_
  intro w2 hx2
  clear x0 x2 z0 z1 WI
  go_wp2_with fail
  go_loopw [5] (fun u wr => ∃ k : Nat, k ≤ c.tapes.length ∧ u = .int .i64 (k : Int) ∧ Ext w wr) (fun u _ => c.tapes.length - (intOf u).toNat)
  case atStart => exact ⟨0, Nat.zero_le _, rfl, hx2⟩
  case round =>
    clear hx2
    obtain ⟨k, hk, rfl, hx⟩ := hrel
    have e1 := hx.cell q1
    by_cases hlt : k < c.tapes.length
    · obtain ⟨b4, o4, vl, vr4, rfl, d0, d1, i1, i2⟩ := (hT.ext hx).at hlt
      have hto := List.all_eq_true.1 HTS.out _ (List.getElem_mem hlt)
      simp only [tapeOk, Bool.and_eq_true] at hto
      obtain ⟨o1, o2⟩ := hto
      generalize c.tapes[k] = t at *
      have S1 := fun d os => l06Side_c vl t.l m.sy (Sort.grow (redrawn wr d) os) (i1.ext (below_regrown _ _ _)) (by omega) (by omega)
      have S2 := fun d os => l06Side_c vr4 t.r m.sy (Sort.grow (redrawn wr d) os) (i2.ext (below_regrown _ _ _)) (by omega) (by omega)
      rw [o1] at S1
      rw [o2] at S2
      obtain ⟨A1, c1, rfl, _, _⟩ := i1.form
      obtain ⟨A2, c2, rfl, _, _⟩ := i2.form
      have z1 := cellR e1
      have z2 := cellR d0
      have z3 := cellR d1
      have z4 := cellR (hx.cell m1)
      generalize t.l.length = nl at *
      generalize t.r.length = nr at *
      clear i1 i2 o1 o2 hT
      go_wp2_with fail
      refine wp_region_ext (by kernel_rfl) (by kernel_rfl) ?_
      repeat (go_big_quiet_step ((go_at_call 80; first | (with_reducible exact Calls.sameR (S1 _ _)) | (with_reducible exact Calls.sameR (S2 _ _)))))
      refine wpQuiet_nil ?_
      intro w3 hx3
      clear S1 S2 z1 z2 z3 z4 d0 d1 e1
      go_wp2_with fail
      go_roundw
      case rel => exact ⟨k + 1, by omega, by go_num, hx.trans hx3⟩
      case measure => simp [intOf]; omega
    · obtain rfl : k = c.tapes.length := by omega
      go_wp2
      go_ret
      exact ⟨rfl, hx⟩
set_option maxRecDepth 20000 in
set_option maxHeartbeats 2000000 in
theorem RunMultiS_c (m : MultiD) (mv tv : Value) (c : MConfD) (N : Nat) (w : World) (hM : Mult w mv m) (hm : multiOk m = true) (hq : inB c.q 0 (m.st - 1) = true) (hn : (c.tapes.length : Int) = m.tp) (hts : c.tapes.all (tapeOk m) = true)
    (hT : Tapes w tv c.tapes) (hN1 : 1 ≤ N) (hN2 : N ≤ 20000) :
    Calls Try.prog 17 #[mv, .agg #[.int .i64 c.q, tv], .int .i64 (N : Int)] w fun e w' => RunSR m.rules c N e ∧ Ext w w' := by
  obtain ⟨rv, rfl, hR⟩ := id hM
  obtain ⟨A, cA, rfl, _, _⟩ := hR.form
  obtain ⟨B, cB, rfl, _, _⟩ := hT.form
  obtain ⟨g, hg⟩ : ∃ g, w.heap.size = g := ⟨_, rfl⟩
  obtain ⟨V, hV⟩ : ∃ V, V = ((w.alloc (.cells #[.int .i64 m.tp, .int .i64 m.sy, .int .i64 m.st, .slice A m.rules.length cA] 29)).alloc (.cells #[.int .i64 c.q, .slice B c.tapes.length cB] 34)).alloc (.cells #[.int .i64 0, .slice none 0 0] 34) := ⟨_, rfl⟩
  have hX : Ext w V := by rw [hV]; exact ((Ext.alloc _ _).trans (Ext.alloc _ _)).trans (Ext.alloc _ _)
  have bM : Blk V g 29 #[.int .i64 m.tp, .int .i64 m.sy, .int .i64 m.st, .slice A m.rules.length cA] := by rw [hV]; exact ((Blk.new _ _ _ _ hg).alloc _).alloc _
  have bC : Blk V (g + 1) 34 #[.int .i64 c.q, .slice B c.tapes.length cB] := by rw [hV]; exact (Blk.new _ _ _ _ (by simp [hg])).alloc _
  have bO : Blk V (g + 1 + 1) 34 #[.int .i64 0, .slice none 0 0] := by rw [hV]; exact Blk.new _ _ _ _ (by simp [hg])
  have IS := l06Is_c g m _ V bM (hR.ext hX)
  rw [hm] at IS
  have BU := fun w => l00In_c (N : Int) 1 20000 w
  have hbu : inB (N : Int) 1 20000 = true := inB_iff.2 ⟨by omega, by omega⟩
  rw [hbu] at BU
  have HT := Lib.hid hT
  have HR := Lib.hid hR
  clear hT hR hM hbu
  go_enter Try.func17, Try.ntmps17
  go_wp2_with fail
  try rw [← hV]
  try rw [hg]
  clear hV
  refine IS.mono ?_
  rintro e w1 ⟨rfl, hx1⟩
  have hX1 := hX.trans hx1
  have bC1 := bC.ext hx1
  have GO := l06Good_c g (g + 1) m c _ (.slice B c.tapes.length cB) w1 hm hq hn hts (bM.ext hx1) (bC1.cell 0) (bC1.cell 1) (HT.out.ext hX1)
  clear IS
  go_wp2_with fail
  refine GO.mono ?_
  rintro e w2 ⟨rfl, hx2⟩
  clear GO
  have hX2 := hX1.trans hx2
  go_wp2_with fail
  refine (BU w2).mono ?_
  rintro e _ ⟨rfl, rfl⟩
  clear BU
  have bC2 := bC1.ext hx2
  have RU := l06Run_c g (g + 1) m c _ (.slice B c.tapes.length cB) N w2 hm hn (room_of_ok hts) ((bM.ext hx1).ext hx2) (HR.out.ext hX2) (bC2.cell 0) (bC2.cell 1) (HT.out.ext hX2) (by omega)
  have bO2 := (bO.ext hx1).ext hx2
  clear bC1 bC2 bC bM bO hn hm hts
  go_wp2_with fail
  refine RU.mono ?_
  rintro e w3 ⟨hR, hx3⟩
  have bO3 := bO2.ext hx3
  have ob := bO3.cell
  have of_ := bO3.frozen
  have HX : Hid (∀ a b, Ext w ((w3.setCell ⟨g + 1 + 1, 0, none⟩ a).setCell ⟨g + 1 + 1, 1, none⟩ b)) := Lib.hid fun a b => ((hX2.trans hx3).setCell (p := ⟨g + 1 + 1, 0, none⟩) (by show w.heap.size ≤ g + 1 + 1; omega) a).setCell (p := ⟨g + 1 + 1, 1, none⟩) (by show w.heap.size ≤ g + 1 + 1; omega) b
  clear RU bO3 bO2
  rcases hR with ⟨i, A', cap', hE, rfl⟩ | ⟨i, hF, rfl⟩
  · have HE := Lib.hid hE
    obtain ⟨nt, hnt⟩ : ∃ n, c.tapes.length = n := ⟨_, rfl⟩
    have HNT := Lib.hid hnt
    rw [hnt]
    obtain ⟨q, hqq⟩ : ∃ q, (cfgM m.rules c i).q = q := ⟨_, rfl⟩
    have HQQ := Lib.hid hqq
    rw [hqq]
    obtain ⟨hl, hhl⟩ : ∃ b, (lookM m.rules (cfgM m.rules c i)).isNone = b := ⟨_, rfl⟩
    have HHL := Lib.hid hhl
    rw [hhl]
    clear hE hnt hqq hhl
    go_wp2_with fail
    exact bodyPost_ret (v := .tuple #[.agg #[.int .i64 q, .slice A' nt cap'], .int .i64 (i : Int), .bool hl, .int .i64 0]) (by simp [results, Try.results17, go_sem, ob]) rfl ⟨.inl ⟨i, A', cap', HE.out, by rw [HNT.out, HQQ.out, HHL.out]⟩, HX.out _ _⟩
  · have HF := Lib.hid hF
    clear hF
    go_wp2_with fail
    exact bodyPost_ret (v := .tuple #[.agg #[.int .i64 0, .slice none 0 0], .int .i64 0, .bool false, .int .i64 5]) (by simp [results, Try.results17, go_sem, ob]) rfl ⟨.inr ⟨i, HF.out, rfl⟩, HX.out _ _⟩
set_option maxRecDepth 20000 in
set_option maxHeartbeats 2000000 in
theorem l06Same_c (ba bb : Nat) (c : MConfD) (av bv : Value) (w : World) (p0 : w.cell? ⟨ba, 0, none⟩ = some (.int .i64 c.q)) (p1 : w.cell? ⟨ba, 1, none⟩ = some av) (hA : Tapes w av c.tapes) (q0 : w.cell? ⟨bb, 0, none⟩ = some (.int .i64 c.q)) (q1 : w.cell? ⟨bb, 1, none⟩ = some bv) (hB : Tapes w bv c.tapes) :
    Calls Try.prog 53 #[.pointer (some ⟨ba, 0, none⟩), .pointer (some ⟨bb, 0, none⟩)] w fun e w' => e = .returned (.bool true) ∧ Ext w w' := by
  obtain ⟨A, ca, rfl, ha1, ha2⟩ := hA.form
  obtain ⟨B, cb, rfl, hb1, hb2⟩ := hB.form
  have x0 := cellR p0
  have x1 := cellR p1
  have z0 := cellR q0
  have z1 := cellR q1
  have eq1 : (c.q != c.q) = false := by simp
  have eq2 : ((c.tapes.length : Int) != (c.tapes.length : Int)) = false := by simp
  go_enter Try.func53, Try.ntmps53
  go_wp2_with fail
  refine wp_region_ext (by kernel_rfl) (by kernel_rfl) ?_
  repeat (go_big_quiet_step (fail))
  refine wpQuiet_nil ?_
  intro w2 hx2
  clear x0 x1 z0 z1
  go_wp2_with fail
  go_loopw [5] (fun u wr => ∃ k : Nat, k ≤ c.tapes.length ∧ u = .int .i64 (k : Int) ∧ Ext w wr) (fun u _ => c.tapes.length - (intOf u).toNat)
  case atStart => exact ⟨0, Nat.zero_le _, rfl, hx2⟩
  case round =>
    clear hx2
    obtain ⟨k, hk, rfl, hx⟩ := hrel
    have e1 := hx.cell p1
    have e2 := hx.cell q1
    by_cases hlt : k < c.tapes.length
    · obtain ⟨b4, o4, vl, vr, rfl, d0, d1, i1, i2⟩ := (hA.ext hx).at hlt
      obtain ⟨b5, o5, ul, ur, rfl, f0, f1, j1, j2⟩ := (hB.ext hx).at hlt
      generalize c.tapes[k] = t at *
      have S1 := fun d os => l00Same_c (Sort.grow (redrawn wr d) os) vl ul t.l t.l (i1.ext (below_regrown _ _ _)) (j1.ext (below_regrown _ _ _))
      have S2 := fun d os => l00Same_c (Sort.grow (redrawn wr d) os) vr ur t.r t.r (i2.ext (below_regrown _ _ _)) (j2.ext (below_regrown _ _ _))
      rw [lEq_true rfl] at S1 S2
      obtain ⟨A1, c1, rfl, _, _⟩ := i1.form
      obtain ⟨A2, c2, rfl, _, _⟩ := i2.form
      obtain ⟨B1, e1', rfl, _, _⟩ := j1.form
      obtain ⟨B2, e2', rfl, _, _⟩ := j2.form
      have z1 := cellR e1
      have z2 := cellR d0
      have z3 := cellR d1
      have z4 := cellR e2
      have z5 := cellR f0
      have z6 := cellR f1
      generalize t.l.length = nl at *
      generalize t.r.length = nr at *
      clear i1 i2 j1 j2 hA hB
      go_wp2_with fail
      refine wp_region_ext (by kernel_rfl) (by kernel_rfl) ?_
      repeat (go_big_quiet_step ((go_at_call 84; first | (with_reducible exact Calls.extR (S1 _ _)) | (with_reducible exact Calls.extR (S2 _ _)))))
      refine wpQuiet_nil ?_
      intro w3 hx3
      clear S1 S2 z1 z2 z3 z4 z5 z6 d0 d1 e1 e2 f0 f1
      go_wp2_with fail
      go_roundw
      case rel => exact ⟨k + 1, by omega, by go_num, hx.trans hx3⟩
      case measure => simp [intOf]; omega
    · obtain rfl : k = c.tapes.length := by omega
      go_wp2
      go_ret
      exact ⟨rfl, hx⟩
set_option maxRecDepth 20000 in
theorem SameMultiConfig_c (c : MConfD) (av bv : Value) (w : World) (hA : Tapes w av c.tapes) (hB : Tapes w bv c.tapes) :
    Calls Try.prog 18 #[.agg #[.int .i64 c.q, av], .agg #[.int .i64 c.q, bv]] w fun e w' => e = .returned (.bool true) ∧ Ext w w' := by
  obtain ⟨A, ca, rfl, ha1, ha2⟩ := id hA.form
  obtain ⟨B, cb, rfl, hb1, hb2⟩ := id hB.form
  obtain ⟨g, hg⟩ : ∃ g, w.heap.size = g := ⟨_, rfl⟩
  obtain ⟨V, hV⟩ : ∃ V, V = (w.alloc (.cells #[.int .i64 c.q, .slice A c.tapes.length ca] 34)).alloc (.cells #[.int .i64 c.q, .slice B c.tapes.length cb] 34) := ⟨_, rfl⟩
  have hX : Ext w V := by rw [hV]; exact (Ext.alloc _ _).trans (Ext.alloc _ _)
  have bA : Blk V g 34 #[.int .i64 c.q, .slice A c.tapes.length ca] := by rw [hV]; exact (Blk.new _ _ _ _ hg).alloc _
  have bB : Blk V (g + 1) 34 #[.int .i64 c.q, .slice B c.tapes.length cb] := by rw [hV]; exact Blk.new _ _ _ _ (by simp [hg])
  have SA := l06Same_c g (g + 1) c _ _ V (bA.cell 0) (bA.cell 1) (hA.ext hX) (bB.cell 0) (bB.cell 1) (hB.ext hX)
  clear hA hB
  go_enter Try.func18, Try.ntmps18
  go_wp2_with fail
  try rw [← hV]
  try rw [hg]
  clear hV
  refine SA.mono ?_
  rintro e w1 ⟨rfl, hx1⟩
  go_wp2_with fail
  go_ret
  exact ⟨rfl, hX.trans hx1⟩
end Go.Proofs.Ytkbpchdncljlbaa
end
section
set_option linter.unusedVariables false
set_option linter.unusedSimpArgs false
namespace Go.Proofs.Ytkbpchdncljlbaa
open Go Go.RowKit Go.Proofs Go.Maps
set_option maxHeartbeats 400000
set_option maxRecDepth 20000 in
set_option maxHeartbeats 4000000 in
theorem l06OwnRule_c (bp op : Nat) (vr vw vm : Value) (r : MRuleD) (by_ : Int) (w : World) (c0 : w.cell? ⟨bp, op, none⟩ = some (.int .i64 r.st)) (c1 : w.cell? ⟨bp, op + 1, none⟩ = some vr) (c2 : w.cell? ⟨bp, op + 2, none⟩ = some vw) (c3 : w.cell? ⟨bp, op + 3, none⟩ = some vm) (c4 : w.cell? ⟨bp, op + 4, none⟩ = some (.int .i64 r.nx))
    (h1 : Ints w vr r.rd) (h2 : Ints w vw r.wr) (h3 : Ints w vm r.mv) (n1 : r.rd.length ≤ 1000) (n2 : r.wr.length ≤ 1000) (n3 : r.mv.length ≤ 1000) (b1 : 0 ≤ r.st ∧ r.st ≤ 1000) (b2 : 0 ≤ r.nx ∧ r.nx ≤ 1000) (b3 : 0 ≤ by_ ∧ by_ ≤ 1000) :
    Calls Try.prog 47 #[.pointer (some ⟨bp, op, none⟩), .int .i64 by_] w fun e w' => CopyR w.heap.size (mvR by_ r) e w' ∧ Ext w w' := by
  obtain ⟨B1, d1, rfl, _, _⟩ := id h1.form
  obtain ⟨B2, d2, rfl, _, _⟩ := id h2.form
  obtain ⟨B3, d3, rfl, _, _⟩ := id h3.form
  obtain ⟨g, hg⟩ : ∃ g, w.heap.size = g := ⟨_, rfl⟩
  obtain ⟨V, hV⟩ : ∃ V, V = w.alloc (.cells #[.int .i64 0, .slice none 0 0, .slice none 0 0, .slice none 0 0, .int .i64 0] 70) := ⟨_, rfl⟩
  have hX : Ext w V := by rw [hV]; exact Ext.alloc _ _
  have bO : Blk V g 70 #[.int .i64 0, .slice none 0 0, .slice none 0 0, .slice none 0 0, .int .i64 0] := by rw [hV]; exact Blk.new _ _ _ _ hg
  have zD := Ext.drew V
  have z0 := (hX.trans zD).cell c0
  have z1 := (hX.trans zD).cell c1
  have z2 := (hX.trans zD).cell c2
  have z3 := (hX.trans zD).cell c3
  have z4 := (hX.trans zD).cell c4
  have C1 := l00OwnA_c _ r.rd V.drew (h1.ext (hX.trans zD)) (by omega)
  have C2 := fun W (h : Ext V.drew W) => l00OwnA_c _ r.wr W (h2.ext ((hX.trans zD).trans h)) (by omega)
  have C3 := fun W (h : Ext V.drew W) => l00OwnA_c _ r.mv W (h3.ext ((hX.trans zD).trans h)) (by omega)
  have hVs : g ≤ V.drew.heap.size := by rw [← hg]; exact hX.size
  have hw1 : IntKind.i64.wrap (r.st + by_) = r.st + by_ := IntWalk.i64_in _ (by omega)
  have hw2 : IntKind.i64.wrap (r.nx + by_) = r.nx + by_ := IntWalk.i64_in _ (by omega)
  clear c0 c1 c2 c3 c4
  go_enter Try.func47, Try.ntmps47
  go_wp2_with fail
  try rw [← hV]
  try rw [hg]
  clear hV
  refine wp_region_ordT 27 (readsT [0, 1, 2, 3, 4, 5, 6, 7, 8, 9, 11, 12, 13, 14, 16, 17, 18, 19, 21, 22, 23, 24, 25, 26] (.stir 10 (.stir 15 (.stir 20 .done)))) (by kernel_rfl) (by kernel_rfl) (fun _ _ _ _ _ h => h) ?_
  simp only [readsT]
  iterate 24 (refine wpOrdT_read (v := ?_) (by rfl) (Or.inl ⟨by rfl, fun x hx => ?_⟩) ?_; rotate_left; (· have a0 := hx.cell z0; have a1 := hx.cell z1; have a2 := hx.cell z2; have a3 := hx.cell z3; have a4 := hx.cell z4; go_simp; try with_reducible rfl); try simp only [Act.put, List.setIfInBounds_toArray, List.set_cons_zero, List.set_cons_succ])
  refine wpOrdT_stir (by rfl) (fun K hK => ?_)
  go_simp
  go_at_call 49
  refine C1.mono ?_
  rintro e w3 ⟨u, rfl, o3, hx3⟩
  obtain ⟨A3, c3, rfl, _, _⟩ := id o3.ints.form
  refine hK _ _ hx3 ?_
  clear hK K C1
  try simp only [Act.put, List.setIfInBounds_toArray, List.set_cons_zero, List.set_cons_succ]
  refine wpOrdT_stir (by rfl) (fun K hK => ?_)
  go_simp
  go_at_call 49
  refine (C2 w3 hx3).mono ?_
  rintro e w4 ⟨u, rfl, o4, hx4⟩
  obtain ⟨A4, c4, rfl, _, _⟩ := id o4.ints.form
  refine hK _ _ hx4 ?_
  clear hK K C2
  try simp only [Act.put, List.setIfInBounds_toArray, List.set_cons_zero, List.set_cons_succ]
  refine wpOrdT_stir (by rfl) (fun K hK => ?_)
  go_simp
  go_at_call 49
  refine (C3 w4 (hx3.trans hx4)).mono ?_
  rintro e w5 ⟨u, rfl, o5, hx5⟩
  obtain ⟨A5, c5, rfl, _, _⟩ := id o5.ints.form
  refine hK _ _ hx5 ?_
  clear hK K C3
  try simp only [Act.put, List.setIfInBounds_toArray, List.set_cons_zero, List.set_cons_succ]
  refine wpOrdT_done ?_
  try simp only [List.drop_succ_cons, List.drop_zero]
  have hX5 : Ext V w5 := ((zD.trans hx3).trans hx4).trans hx5
  have bO5 := bO.ext hX5
  have ob := bO5.cell
  have of_ := bO5.frozen
  have s3 := hx3.size
  have s4 := hx4.size
  have q3 : OwnInts g w5 (.slice A3 r.rd.length c3) r.rd := ownsRow_base (OwnInts.ext o3 (hx4.trans hx5)) hVs
  have q4 : OwnInts g w5 (.slice A4 r.wr.length c4) r.wr := ownsRow_base (OwnInts.ext o4 hx5) (by omega)
  have q5 : OwnInts g w5 (.slice A5 r.mv.length c5) r.mv := ownsRow_base o5 (by omega)
  have F : ∀ (X : World) {v : Value} {zs : List Int} (i : Nat) (y : Value) {cs : Array Value}, Blk X g 70 cs → OwnInts g X v zs → OwnInts g (X.setCell ⟨g, i, none⟩ y) v zs := fun X {v zs} i y {cs} hb o => ownsRow_far o (fun q hq e => by
    have e : q = g := e
    subst e
    exact blk_ne_row hb o (by decide) hq.symm) y
  have HF : Hid (∀ u0 u1 u2 u3 u4, OwnRul g (((((w5.setCell ⟨g, 0, none⟩ u0).setCell ⟨g, 1, none⟩ u1).setCell ⟨g, 2, none⟩ u2).setCell ⟨g, 3, none⟩ u3).setCell ⟨g, 4, none⟩ u4) (.agg #[.int .i64 (r.st + by_), .slice A3 r.rd.length c3, .slice A4 r.wr.length c4, .slice A5 r.mv.length c5, .int .i64 (r.nx + by_)]) (mvR by_ r) ∧
      Ext w (((((w5.setCell ⟨g, 0, none⟩ u0).setCell ⟨g, 1, none⟩ u1).setCell ⟨g, 2, none⟩ u2).setCell ⟨g, 3, none⟩ u3).setCell ⟨g, 4, none⟩ u4)) := Lib.hid fun u0 u1 u2 u3 u4 => by
    have e0 := bO5.set_ 0 u0
    have e1 := e0.set_ 1 u1
    have e2 := e1.set_ 2 u2
    have e3 := e2.set_ 3 u3
    have P : ∀ {v : Value} {zs : List Int}, OwnInts g w5 v zs → OwnInts g (((((w5.setCell ⟨g, 0, none⟩ u0).setCell ⟨g, 1, none⟩ u1).setCell ⟨g, 2, none⟩ u2).setCell ⟨g, 3, none⟩ u3).setCell ⟨g, 4, none⟩ u4) v zs := fun o => F _ 4 u4 e3 (F _ 3 u3 e2 (F _ 2 u2 e1 (F _ 1 u1 e0 (F _ 0 u0 bO5 o))))
    exact ⟨⟨_, _, _, rfl, P q3, P q4, P q5⟩, (((((hX.trans hX5).setCell (p := ⟨g, 0, none⟩) (by show w.heap.size ≤ g; omega) u0).setCell (p := ⟨g, 1, none⟩) (by show w.heap.size ≤ g; omega) u1).setCell (p := ⟨g, 2, none⟩) (by show w.heap.size ≤ g; omega) u2).setCell (p := ⟨g, 3, none⟩) (by show w.heap.size ≤ g; omega) u3).setCell (p := ⟨g, 4, none⟩) (by show w.heap.size ≤ g; omega) u4⟩
  have HG := Lib.hid hg
  clear q3 q4 q5 o3 o4 o5 F hx3 hx4 hx5 z0 z1 z2 z3 z4 zD bO bO5 hX5 h1 h2 h3
  generalize hl1 : r.rd.length = l1 at *
  generalize hl2 : r.wr.length = l2 at *
  generalize hl3 : r.mv.length = l3 at *
  have HL : Hid (r.rd.length = l1 ∧ r.wr.length = l2 ∧ r.mv.length = l3) := Lib.hid ⟨hl1, hl2, hl3⟩
  clear hl1 hl2 hl3
  go_wp2_with fail
  refine bodyPost_ret (v := .agg #[.int .i64 (r.st + by_), .slice A3 l1 c3, .slice A4 l2 c4, .slice A5 l3 c5, .int .i64 (r.nx + by_)]) (by simp [results, Try.results47, go_sem, ob]) rfl ⟨⟨A3, c3, A4, c4, A5, c5, ?_, ?_⟩, (HF.out _ _ _ _ _).2⟩
  · show _ = Ending.returned (.agg #[.int .i64 (r.st + by_), .slice A3 r.rd.length c3, .slice A4 r.wr.length c4, .slice A5 r.mv.length c5, .int .i64 (r.nx + by_)])
    rw [HL.out.1, HL.out.2.1, HL.out.2.2]
  · show OwnRul _ _ (.agg #[.int .i64 (r.st + by_), .slice A3 r.rd.length c3, .slice A4 r.wr.length c4, .slice A5 r.mv.length c5, .int .i64 (r.nx + by_)]) _
    rw [HG.out, HL.out.1, HL.out.2.1, HL.out.2.2]
    exact (HF.out _ _ _ _ _).1
end Go.Proofs.Ytkbpchdncljlbaa
end
