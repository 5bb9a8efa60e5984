/- Contract of the reference's run of a machine with several tapes.
Contracts of the reference's validity of a configuration with several tapes, of its run where both are valid, and of its comparison of equal configurations.
Contract of the reference's drawing of a tape. -/
import Derived.Test.YtkbpchdncljlbaaGreatDoorV41
import Derived.Test.YtkbpchdncljlbaaGreatDoorV30
import Derived.Test.YtkbpchdncljlbaaGreatDoorV35
import Derived.Test.YtkbpchdncljlbaaGreatDoorV21
import Derived.Test.YtkbpchdncljlbaaGreatDoorV36
import Derived.Test.YtkbpchdncljlbaaGreatDoorV38
import Derived.Deep.CutBlock
import Derived.Deep.DeepCutAuto
section
set_option linter.unusedVariables false
set_option linter.unusedSimpArgs false
namespace Go.Proofs.YtkbpchdncljlbaaGreatDoor
open Go Go.RowKit Go.Proofs Go.Maps
set_option maxHeartbeats 400000
/-- What a run of the reference gives. -/
def RunSR (rs : List MRuleD) (c : MConfD) (N : Nat) (e : Ending) : Prop :=
  (∃ i A cap, MEnd rs c N i ∧ e = .returned (.tuple #[.agg #[.int .i64 (cfgM rs c i).q, .slice A c.tapes.length cap], .int .i64 (i : Int), .bool (lookM rs (cfgM rs c i)).isNone, .int .i64 0])) ∨
  (∃ i, MFull rs c N i ∧ e = .returned (.tuple #[.agg #[.int .i64 0, .slice none 0 0], .int .i64 0, .bool false, .int .i64 5]))
theorem room_lens {c : MConfD} (h : roomM c = true) : ∀ t ∈ c.tapes, t.l.length ≤ 1000 ∧ t.r.length ≤ 1000 := fun t ht => by
  have := List.all_eq_true.1 h t ht
  simp only [roomT, Bool.and_eq_true, decide_eq_true_eq] at this
  omega
set_option maxRecDepth 20000 in
set_option maxHeartbeats 4000000 in
theorem l06Run_c (bm bc : Nat) (m : MultiD) (c : MConfD) (rv tv : Value) (N : Nat) (w : World) (hm : multiOk m = true) (hn : (c.tapes.length : Int) = m.tp) (hroom : roomM c = true) (hb : Blk w bm 26 #[.int .i64 m.tp, .int .i64 m.sy, .int .i64 m.st, rv]) (hr : MRules w rv m.rules)
    (q0 : w.cell? ⟨bc, 0, none⟩ = some (.int .i64 c.q)) (q1 : w.cell? ⟨bc, 1, none⟩ = some tv) (hT : Tapes w tv c.tapes) (hN : N ≤ 1000000) :
    Calls Tryz.prog 37 #[.pointer (some ⟨bm, 0, none⟩), .pointer (some ⟨bc, 0, none⟩), .int .i64 (N : Int)] w fun e w' => RunSR m.rules c N e ∧ Ext w w' := by
  obtain ⟨⟨t1, t2⟩, _⟩ := multi_all hm
  obtain ⟨g, hg⟩ : ∃ g, w.heap.size = g := ⟨_, rfl⟩
  obtain ⟨V, hV⟩ : ∃ V, V = w.alloc (.cells #[.int .i64 0, .slice none 0 0] 29) := ⟨_, rfl⟩
  have hX : Ext w V := by rw [hV]; exact Ext.alloc _ _
  have bO : Blk V g 29 #[.int .i64 0, .slice none 0 0] := by rw [hV]; exact Blk.new _ _ _ _ hg
  have h3 : c.tapes.length ≤ 3 := by omega
  have OW := l06Own_c bc c tv V (hX.cell q0) (hX.cell q1) (hT.ext hX) (by omega) (room_lens hroom)
  have HM := Lib.hid hm
  have HN : Hid ((c.tapes.length : Int) = m.tp) := hn
  have hVs : V.heap.size = g + 1 := by rw [hV]; simp [hg]
  rw [hVs] at OW
  have HRO := Lib.hid hroom
  clear hm hn hT q0 q1 hroom
  go_enter Tryz.func37, Tryz.ntmps37
  go_wp2_with fail
  try rw [← hV]
  try rw [hg]
  clear hV
  refine OW.mono ?_
  rintro e w1 ⟨⟨A1, cap1, rfl, ho1⟩, hx1⟩
  have hX1 := hX.trans hx1
  have bO1 := bO.ext hx1
  obtain ⟨W, hWW⟩ : ∃ W, W = w1.alloc (.cells #[.int .i64 c.q, .slice A1 c.tapes.length cap1] 29) := ⟨_, rfl⟩
  obtain ⟨gc, hgc⟩ : ∃ gc, w1.heap.size = gc := ⟨_, rfl⟩
  have hXW : Ext w1 W := by rw [hWW]; exact Ext.alloc _ _
  have bC : Blk W gc 29 #[.int .i64 c.q, .slice A1 c.tapes.length cap1] := by rw [hWW]; exact Blk.new _ _ _ _ hgc
  have bOW := bO1.ext hXW
  have hgl : g < gc := by rw [← hgc]; exact bO1.lt
  have hXWW := hX1.trans hXW
  have st0 : OwnT (g + 1) W (.slice A1 c.tapes.length cap1) (cfgM m.rules c 0).tapes := ho1.ext hXW
  have bC0 : Blk W gc 29 #[.int .i64 (cfgM m.rules c 0).q, .slice A1 c.tapes.length cap1] := bC
  clear OW hX bO bO1 hx1 hXW ho1 bC hX1 hVs
  go_wp2_with fail
  try rw [← hWW]
  try rw [hgc]
  clear hWW hgc
  go_loopw [11] (fun u wr => ∃ (k : Nat) (A : Option Addr) (cap : Nat), k ≤ N ∧ u = .int .i64 (k : Int) ∧ MRuns m.rules c k ∧ OwnT (g + 1) wr (.slice A c.tapes.length cap) (cfgM m.rules c k).tapes ∧ Ext w wr ∧ Blk wr g 29 #[.int .i64 0, .slice none 0 0] ∧ Blk wr gc 29 #[.int .i64 (cfgM m.rules c k).q, .slice A c.tapes.length cap]) (fun u _ => N - (intOf u).toNat)
  case atStart => exact ⟨0, A1, cap1, Nat.zero_le _, rfl, MRuns.zero HRO.out, st0, hXWW, bOW, bC0⟩
  case round =>
    clear st0 hXWW bOW bC0
    obtain ⟨k, A, cap, hk, rfl, hrun, st, hx, bO, bC⟩ := hrel
    have hsz := hx.size
    have RU := l06Rule_c bm gc m (cfgM m.rules c k) rv (.slice A c.tapes.length cap) wr HM.out (by rw [cfgM_tapes]; exact HN.out) (hb.ext hx) (hr.ext hx) (bC.cell 0) (bC.cell 1) st.tapes
    have hKL := cfgM_tapes m.rules c k
    have HKL := Lib.hid hKL
    have HRUN := Lib.hid hrun
    clear hKL hrun
    cases hlk : lookM m.rules (cfgM m.rules c k) with
    | none =>
      rw [hlk] at RU
      simp only [ixOf] at RU
      have HE : Hid (MEnd m.rules c N k) := ⟨HRUN.out, hk, .inr hlk⟩
      have HLK := Lib.hid hlk
      clear hlk
      go_wp2_with fail
      refine RU.mono ?_
      rintro e w3 ⟨rfl, hx3⟩
      have bC3 := bC.ext hx3
      have bO3 := bO.ext hx3
      have y0 := bC3.cell 0
      have y1 := bC3.cell 1
      simp only [List.getElem?_toArray, List.getElem?_cons_zero, List.getElem?_cons_succ] at y0 y1
      have ob := bO3.cell
      have of_ := bO3.frozen
      have HX : Hid (∀ a b, Ext w ((w3.setCell ⟨g, 0, none⟩ a).setCell ⟨g, 1, none⟩ b)) := Lib.hid fun a b => ((hx.trans hx3).setCell (p := ⟨g, 0, none⟩) (by show w.heap.size ≤ g; omega) a).setCell (p := ⟨g, 1, none⟩) (by show w.heap.size ≤ g; omega) b
      obtain ⟨q, hqq⟩ : ∃ q, (cfgM m.rules c k).q = q := ⟨_, rfl⟩
      rw [hqq] at y0
      have HQQ := Lib.hid hqq
      obtain ⟨nt, hnt⟩ : ∃ n, c.tapes.length = n := ⟨_, rfl⟩
      have HNT := Lib.hid hnt
      rw [hnt] at y1
      clear RU st bC bO bC3 bO3 hqq hnt
      go_wp2_with fail
      exact bodyPost_ret (v := .tuple #[.agg #[.int .i64 q, .slice A nt cap], .int .i64 (k : Int), .bool true, .int .i64 0]) (by simp [results, Tryz.results37, go_sem, ob]) rfl ⟨.inl ⟨k, A, cap, HE.out, by rw [HQQ.out, HLK.out, HNT.out]; rfl⟩, HX.out _ _⟩
    | some j =>
      rw [hlk] at RU
      simp only [ixOf] at RU
      have hlt0 : decide ((j : Int) < 0) = false := decide_eq_false (by omega)
      have HLK := Lib.hid hlk
      clear hlk
      go_wp2_with fail
      refine RU.mono ?_
      rintro e w3 ⟨rfl, hx3⟩
      clear RU
      have bC3 := bC.ext hx3
      have bO3 := bO.ext hx3
      have hX3 := hx.trans hx3
      by_cases hkN : k = N
      · have heq : ((k : Int) == (N : Int)) = true := by simp [hkN]
        have HE : Hid (MEnd m.rules c N k) := ⟨HRUN.out, hk, .inl hkN⟩
        have y0 := bC3.cell 0
        have y1 := bC3.cell 1
        simp only [List.getElem?_toArray, List.getElem?_cons_zero, List.getElem?_cons_succ] at y0 y1
        have ob := bO3.cell
        have of_ := bO3.frozen
        have HX : Hid (∀ a b, Ext w ((w3.setCell ⟨g, 0, none⟩ a).setCell ⟨g, 1, none⟩ b)) := Lib.hid fun a b => (hX3.setCell (p := ⟨g, 0, none⟩) (by show w.heap.size ≤ g; omega) a).setCell (p := ⟨g, 1, none⟩) (by show w.heap.size ≤ g; omega) b
        obtain ⟨q, hqq⟩ : ∃ q, (cfgM m.rules c k).q = q := ⟨_, rfl⟩
        rw [hqq] at y0
        have HQQ := Lib.hid hqq
        obtain ⟨nt, hnt⟩ : ∃ n, c.tapes.length = n := ⟨_, rfl⟩
        have HNT := Lib.hid hnt
        rw [hnt] at y1
        clear st bC bO bC3 bO3 hqq hnt hkN
        go_wp2_with fail
        exact bodyPost_ret (v := .tuple #[.agg #[.int .i64 q, .slice A nt cap], .int .i64 (k : Int), .bool false, .int .i64 0]) (by simp [results, Tryz.results37, go_sem, ob]) rfl ⟨.inl ⟨k, A, cap, HE.out, by rw [HQQ.out, HLK.out, HNT.out]; rfl⟩, HX.out _ _⟩
      · have heq : ((k : Int) == (N : Int)) = false := by rw [beq_eq_false_iff_ne]; omega
        have hro := room_lens (HRUN.out.room k (Nat.le_refl _))
        have ST := l06Step_c bm gc m (cfgM m.rules c k) rv (.slice A c.tapes.length cap) w3 HM.out (by rw [HKL.out]; exact HN.out) (hb.ext hX3) (hr.ext hX3) (bC3.cell 0) (bC3.cell 1) (st.tapes.ext hx3) hro
        clear hro st
        go_wp2_with fail
        refine ST.mono ?_
        rintro e w4 ⟨hS, hx4⟩
        have bC4 := bC3.ext hx4
        have bO4 := bO3.ext hx4
        have hX4 := hX3.trans hx4
        have hgc4 : gc < w4.heap.size := bC4.lt
        have hgl4 : g < w4.heap.size := bO4.lt
        unfold StepRS at hS
        rw [HLK.out] at hS
        rcases hS with ⟨h, _⟩ | ⟨j', hj', hfull, rfl⟩ | ⟨j', A', cap', hj', hroom', rfl, hown⟩
        · cases h
        · injection hj' with hj'
          subst hj'
          have HF : Hid (MFull m.rules c N (k + 1)) := ⟨by omega, by simpa using HRUN.out, by omega, by rw [Nat.add_sub_cancel, HLK.out]; exact Option.some_ne_none _, by
            show roomM (stepM m.rules (cfgM m.rules c k)) = false
            rw [step_some HLK.out]
            exact hfull⟩
          have ob := bO4.cell
          have of_ := bO4.frozen
          have HX : Hid (∀ a b, Ext w (((w4.setCell ⟨g, 0, none⟩ a).setCell ⟨g, 1, none⟩ b).alloc (.cells #[.int .i64 0, .slice none 0 0] 29))) := Lib.hid fun a b => ((hX4.setCell (p := ⟨g, 0, none⟩) (by show w.heap.size ≤ g; omega) a).setCell (p := ⟨g, 1, none⟩) (by show w.heap.size ≤ g; omega) b).trans (Ext.alloc _ _)
          clear ST bC bO bC3 bO3 bC4 bO4 hX4 hfull
          go_wp2_with fail
          exact bodyPost_ret (v := .tuple #[.agg #[.int .i64 0, .slice none 0 0], .int .i64 0, .bool false, .int .i64 5]) (by simp [results, Tryz.results37, go_sem, ob, hgl4]) rfl ⟨.inr ⟨k + 1, HF.out, rfl⟩, HX.out _ _⟩
        · injection hj' with hj'
          subst hj'
          have hcf : cfgM m.rules c (k + 1) = applyM (cfgM m.rules c k) (m.rules.getD j mr0) := step_some HLK.out
          have HRUN2 : Hid (MRuns m.rules c (k + 1)) := HRUN.out.succ (by rw [HLK.out]; exact Option.some_ne_none _) (by rw [hcf]; exact hroom')
          rw [HKL.out, ← hcf] at hown
          have HKL2 := HKL.out
          obtain ⟨q, hqq⟩ : ∃ q, (cfgM m.rules c (k + 1)).q = q := ⟨_, rfl⟩
          have HQQ : Hid ((cfgM m.rules c (k + 1)).q = q) := hqq
          have hq3 : (applyM (cfgM m.rules c k) (m.rules.getD j mr0)).q = q := by rw [← hcf]; exact hqq
          rw [hq3, HKL.out]
          have st5 : OwnT (g + 1) w4 (.slice A' c.tapes.length cap') (cfgM m.rules c (k + 1)).tapes := hown.low (by have := hX3.size; have := bC3.lt; omega)
          have ob := bC4.cell
          have of_ := bC4.frozen
          have eA := Ext.alloc ((w4.setCell ⟨gc, 0, none⟩ (.int .i64 q)).setCell ⟨gc, 1, none⟩ (.slice A' c.tapes.length cap')) (.cells #[.int .i64 q, .slice A' c.tapes.length cap'] 29)
          have HS := Lib.hid (((st5.far bC4 (by decide) (by decide) 0 (.int .i64 q)).far (bC4.set_ 0 _) (by decide) (by decide) 1 (.slice A' c.tapes.length cap')).ext eA)
          have HX := Lib.hid (((hX4.setCell (p := ⟨gc, 0, none⟩) (by show w.heap.size ≤ gc; omega) (.int .i64 q)).setCell (p := ⟨gc, 1, none⟩) (by show w.heap.size ≤ gc; omega) (.slice A' c.tapes.length cap')).trans eA)
          have HO := Lib.hid (((bO4.far (p := ⟨gc, 0, none⟩) (by show g ≠ gc; omega) (.int .i64 q)).far (p := ⟨gc, 1, none⟩) (by show g ≠ gc; omega) (.slice A' c.tapes.length cap')).ext eA)
          have HC : Hid (Blk (((w4.setCell ⟨gc, 0, none⟩ (.int .i64 q)).setCell ⟨gc, 1, none⟩ (.slice A' c.tapes.length cap')).alloc (.cells #[.int .i64 q, .slice A' c.tapes.length cap'] 29)) gc 29 #[.int .i64 (cfgM m.rules c (k + 1)).q, .slice A' c.tapes.length cap']) := Lib.hid (by
            rw [hqq]
            exact ((bC4.set_ 0 (.int .i64 q)).set_ 1 (.slice A' c.tapes.length cap')).ext eA)
          clear ST bC bO bC3 bO3 bC4 bO4 hX4 hown hcf hq3 hqq hroom' st5 hX3 hx HKL2 eA
          go_wp2_with fail
          go_roundw
          case rel => exact ⟨k + 1, A', cap', by omega, by go_num, HRUN2.out, HS.out, HX.out, HO.out, HC.out⟩
          case measure => simp [intOf]; omega
end Go.Proofs.YtkbpchdncljlbaaGreatDoor
end
section
set_option linter.unusedVariables false
set_option linter.unusedSimpArgs false
namespace Go.Proofs.YtkbpchdncljlbaaGreatDoor
open Go Go.RowKit Go.Proofs Go.Maps
set_option maxHeartbeats 400000
set_option maxRecDepth 20000 in
set_option maxHeartbeats 2000000 in
theorem l06Good_c (bm bc : Nat) (m : MultiD) (c : MConfD) (rv tv : Value) (w : World) (hm : multiOk m = true) (hq : inB c.q 0 (m.st - 1) = true) (hn : (c.tapes.length : Int) = m.tp) (hts : c.tapes.all (tapeOk m) = true)
    (hb : Blk w bm 26 #[.int .i64 m.tp, .int .i64 m.sy, .int .i64 m.st, rv]) (q0 : w.cell? ⟨bc, 0, none⟩ = some (.int .i64 c.q)) (q1 : w.cell? ⟨bc, 1, none⟩ = some tv) (hT : Tapes w tv c.tapes) :
    Calls Tryz.prog 35 #[.pointer (some ⟨bm, 0, none⟩), .pointer (some ⟨bc, 0, none⟩)] w fun e w' => e = .returned (.bool true) ∧ Ext w w' := by
  obtain ⟨⟨t1, t2⟩, ⟨y1, y2⟩, ⟨s1, s2⟩, _⟩ := multi_all hm
  obtain ⟨A, ct, rfl, ht1, ht2⟩ := hT.form
  have m0 := hb.cell 0
  have m1 := hb.cell 1
  have m2 := hb.cell 2
  simp only [List.getElem?_toArray, List.getElem?_cons_zero, List.getElem?_cons_succ] at m0 m1 m2
  have x0 := cellR m0
  have x2 := cellR m2
  have z0 := cellR q0
  have z1 := cellR q1
  have WI := fun w => l00In_c c.q 0 (m.st - 1) w
  have hq' : (decide (0 ≤ c.q) && decide (c.q ≤ m.st - 1)) = true := hq
  have hwq : IntKind.i64.wrap (m.st - 1) = m.st - 1 := IntWalk.i64_in _ (by omega)
  have btp : ((c.tapes.length : Int) != m.tp) = false := by simp [hn]
  rw [hq] at WI
  have HTS := Lib.hid hts
  have HN : Hid ((c.tapes.length : Int) = m.tp) := hn
  clear hq hq' hts hn hm
  go_enter Tryz.func35, Tryz.ntmps35
  go_wp2_with fail
  refine wp_region_ext (by kernel_rfl) (by kernel_rfl) ?_
  repeat (go_big_quiet_step ((go_at_call 36; exact Calls.sameR (WI _))))
  refine wpQuiet_nil ?_
  intro w2 hx2
  clear x0 x2 z0 z1 WI
  go_wp2_with fail
  go_loopw [5] (fun u wr => ∃ k : Nat, k ≤ c.tapes.length ∧ u = .int .i64 (k : Int) ∧ Ext w wr) (fun u _ => c.tapes.length - (intOf u).toNat)
  case atStart => exact ⟨0, Nat.zero_le _, rfl, hx2⟩
  case round =>
    clear hx2
    obtain ⟨k, hk, rfl, hx⟩ := hrel
    have e1 := hx.cell q1
    by_cases hlt : k < c.tapes.length
    · obtain ⟨b4, o4, vl, vr4, rfl, d0, d1, i1, i2⟩ := (hT.ext hx).at hlt
      have hto := List.all_eq_true.1 HTS.out _ (List.getElem_mem hlt)
      simp only [tapeOk, Bool.and_eq_true] at hto
      obtain ⟨o1, o2⟩ := hto
      generalize c.tapes[k] = t at *
      have S1 := fun d os => l06Side_c vl t.l m.sy (Sort.grow (redrawn wr d) os) (i1.ext (below_regrown _ _ _)) (by omega) (by omega)
      have S2 := fun d os => l06Side_c vr4 t.r m.sy (Sort.grow (redrawn wr d) os) (i2.ext (below_regrown _ _ _)) (by omega) (by omega)
      rw [o1] at S1
      rw [o2] at S2
      obtain ⟨A1, c1, rfl, _, _⟩ := i1.form
      obtain ⟨A2, c2, rfl, _, _⟩ := i2.form
      have z1 := cellR e1
      have z2 := cellR d0
      have z3 := cellR d1
      have z4 := cellR (hx.cell m1)
      generalize t.l.length = nl at *
      generalize t.r.length = nr at *
      clear i1 i2 o1 o2 hT
      go_wp2_with fail
      refine wp_region_ext (by kernel_rfl) (by kernel_rfl) ?_
      repeat (go_big_quiet_step ((go_at_call 74; first | (with_reducible exact Calls.sameR (S1 _ _)) | (with_reducible exact Calls.sameR (S2 _ _)))))
      refine wpQuiet_nil ?_
      intro w3 hx3
      clear S1 S2 z1 z2 z3 z4 d0 d1 e1
      go_wp2_with fail
      go_roundw
      case rel => exact ⟨k + 1, by omega, by go_num, hx.trans hx3⟩
      case measure => simp [intOf]; omega
    · obtain rfl : k = c.tapes.length := by omega
      go_wp2
      go_ret
      exact ⟨rfl, hx⟩
set_option maxRecDepth 20000 in
set_option maxHeartbeats 2000000 in
theorem RunMultiS_c (m : MultiD) (mv tv : Value) (c : MConfD) (N : Nat) (w : World) (hM : Mult w mv m) (hm : multiOk m = true) (hq : inB c.q 0 (m.st - 1) = true) (hn : (c.tapes.length : Int) = m.tp) (hts : c.tapes.all (tapeOk m) = true)
    (hT : Tapes w tv c.tapes) (hN1 : 1 ≤ N) (hN2 : N ≤ 20000) :
    Calls Tryz.prog 11 #[mv, .agg #[.int .i64 c.q, tv], .int .i64 (N : Int)] w fun e w' => RunSR m.rules c N e ∧ Ext w w' := by
  obtain ⟨rv, rfl, hR⟩ := id hM
  obtain ⟨A, cA, rfl, _, _⟩ := hR.form
  obtain ⟨B, cB, rfl, _, _⟩ := hT.form
  obtain ⟨g, hg⟩ : ∃ g, w.heap.size = g := ⟨_, rfl⟩
  obtain ⟨V, hV⟩ : ∃ V, V = ((w.alloc (.cells #[.int .i64 m.tp, .int .i64 m.sy, .int .i64 m.st, .slice A m.rules.length cA] 26)).alloc (.cells #[.int .i64 c.q, .slice B c.tapes.length cB] 29)).alloc (.cells #[.int .i64 0, .slice none 0 0] 29) := ⟨_, rfl⟩
  have hX : Ext w V := by rw [hV]; exact ((Ext.alloc _ _).trans (Ext.alloc _ _)).trans (Ext.alloc _ _)
  have bM : Blk V g 26 #[.int .i64 m.tp, .int .i64 m.sy, .int .i64 m.st, .slice A m.rules.length cA] := by rw [hV]; exact ((Blk.new _ _ _ _ hg).alloc _).alloc _
  have bC : Blk V (g + 1) 29 #[.int .i64 c.q, .slice B c.tapes.length cB] := by rw [hV]; exact (Blk.new _ _ _ _ (by simp [hg])).alloc _
  have bO : Blk V (g + 1 + 1) 29 #[.int .i64 0, .slice none 0 0] := by rw [hV]; exact Blk.new _ _ _ _ (by simp [hg])
  have IS := l06Is_c g m _ V bM (hR.ext hX)
  rw [hm] at IS
  have BU := fun w => l00In_c (N : Int) 1 20000 w
  have hbu : inB (N : Int) 1 20000 = true := inB_iff.2 ⟨by omega, by omega⟩
  rw [hbu] at BU
  have HT := Lib.hid hT
  have HR := Lib.hid hR
  clear hT hR hM hbu
  go_enter Tryz.func11, Tryz.ntmps11
  go_wp2_with fail
  try rw [← hV]
  try rw [hg]
  clear hV
  refine IS.mono ?_
  rintro e w1 ⟨rfl, hx1⟩
  have hX1 := hX.trans hx1
  have bC1 := bC.ext hx1
  have GO := l06Good_c g (g + 1) m c _ (.slice B c.tapes.length cB) w1 hm hq hn hts (bM.ext hx1) (bC1.cell 0) (bC1.cell 1) (HT.out.ext hX1)
  clear IS
  go_wp2_with fail
  refine GO.mono ?_
  rintro e w2 ⟨rfl, hx2⟩
  clear GO
  have hX2 := hX1.trans hx2
  go_wp2_with fail
  refine (BU w2).mono ?_
  rintro e _ ⟨rfl, rfl⟩
  clear BU
  have bC2 := bC1.ext hx2
  have RU := l06Run_c g (g + 1) m c _ (.slice B c.tapes.length cB) N w2 hm hn (room_of_ok hts) ((bM.ext hx1).ext hx2) (HR.out.ext hX2) (bC2.cell 0) (bC2.cell 1) (HT.out.ext hX2) (by omega)
  have bO2 := (bO.ext hx1).ext hx2
  clear bC1 bC2 bC bM bO hn hm hts
  go_wp2_with fail
  refine RU.mono ?_
  rintro e w3 ⟨hR, hx3⟩
  have bO3 := bO2.ext hx3
  have ob := bO3.cell
  have of_ := bO3.frozen
  have HX : Hid (∀ a b, Ext w ((w3.setCell ⟨g + 1 + 1, 0, none⟩ a).setCell ⟨g + 1 + 1, 1, none⟩ b)) := Lib.hid fun a b => ((hX2.trans hx3).setCell (p := ⟨g + 1 + 1, 0, none⟩) (by show w.heap.size ≤ g + 1 + 1; omega) a).setCell (p := ⟨g + 1 + 1, 1, none⟩) (by show w.heap.size ≤ g + 1 + 1; omega) b
  clear RU bO3 bO2
  rcases hR with ⟨i, A', cap', hE, rfl⟩ | ⟨i, hF, rfl⟩
  · have HE := Lib.hid hE
    obtain ⟨nt, hnt⟩ : ∃ n, c.tapes.length = n := ⟨_, rfl⟩
    have HNT := Lib.hid hnt
    rw [hnt]
    obtain ⟨q, hqq⟩ : ∃ q, (cfgM m.rules c i).q = q := ⟨_, rfl⟩
    have HQQ := Lib.hid hqq
    rw [hqq]
    obtain ⟨hl, hhl⟩ : ∃ b, (lookM m.rules (cfgM m.rules c i)).isNone = b := ⟨_, rfl⟩
    have HHL := Lib.hid hhl
    rw [hhl]
    clear hE hnt hqq hhl
    go_wp2_with fail
    exact bodyPost_ret (v := .tuple #[.agg #[.int .i64 q, .slice A' nt cap'], .int .i64 (i : Int), .bool hl, .int .i64 0]) (by simp [results, Tryz.results11, go_sem, ob]) rfl ⟨.inl ⟨i, A', cap', HE.out, by rw [HNT.out, HQQ.out, HHL.out]⟩, HX.out _ _⟩
  · have HF := Lib.hid hF
    clear hF
    go_wp2_with fail
    exact bodyPost_ret (v := .tuple #[.agg #[.int .i64 0, .slice none 0 0], .int .i64 0, .bool false, .int .i64 5]) (by simp [results, Tryz.results11, go_sem, ob]) rfl ⟨.inr ⟨i, HF.out, rfl⟩, HX.out _ _⟩
set_option maxRecDepth 20000 in
set_option maxHeartbeats 2000000 in
theorem l06Same_c (ba bb : Nat) (c : MConfD) (av bv : Value) (w : World) (p0 : w.cell? ⟨ba, 0, none⟩ = some (.int .i64 c.q)) (p1 : w.cell? ⟨ba, 1, none⟩ = some av) (hA : Tapes w av c.tapes) (q0 : w.cell? ⟨bb, 0, none⟩ = some (.int .i64 c.q)) (q1 : w.cell? ⟨bb, 1, none⟩ = some bv) (hB : Tapes w bv c.tapes) :
    Calls Tryz.prog 41 #[.pointer (some ⟨ba, 0, none⟩), .pointer (some ⟨bb, 0, none⟩)] w fun e w' => e = .returned (.bool true) ∧ Ext w w' := by
  obtain ⟨A, ca, rfl, ha1, ha2⟩ := hA.form
  obtain ⟨B, cb, rfl, hb1, hb2⟩ := hB.form
  have x0 := cellR p0
  have x1 := cellR p1
  have z0 := cellR q0
  have z1 := cellR q1
  have eq1 : (c.q != c.q) = false := by simp
  have eq2 : ((c.tapes.length : Int) != (c.tapes.length : Int)) = false := by simp
  go_enter Tryz.func41, Tryz.ntmps41
  go_wp2_with fail
  refine wp_region_ext (by kernel_rfl) (by kernel_rfl) ?_
  repeat (go_big_quiet_step (fail))
  refine wpQuiet_nil ?_
  intro w2 hx2
  clear x0 x1 z0 z1
  go_wp2_with fail
  go_loopw [5] (fun u wr => ∃ k : Nat, k ≤ c.tapes.length ∧ u = .int .i64 (k : Int) ∧ Ext w wr) (fun u _ => c.tapes.length - (intOf u).toNat)
  case atStart => exact ⟨0, Nat.zero_le _, rfl, hx2⟩
  case round =>
    clear hx2
    obtain ⟨k, hk, rfl, hx⟩ := hrel
    have e1 := hx.cell p1
    have e2 := hx.cell q1
    by_cases hlt : k < c.tapes.length
    · obtain ⟨b4, o4, vl, vr, rfl, d0, d1, i1, i2⟩ := (hA.ext hx).at hlt
      obtain ⟨b5, o5, ul, ur, rfl, f0, f1, j1, j2⟩ := (hB.ext hx).at hlt
      generalize c.tapes[k] = t at *
      have S1 := fun d os => l00Same_c (Sort.grow (redrawn wr d) os) vl ul t.l t.l (i1.ext (below_regrown _ _ _)) (j1.ext (below_regrown _ _ _))
      have S2 := fun d os => l00Same_c (Sort.grow (redrawn wr d) os) vr ur t.r t.r (i2.ext (below_regrown _ _ _)) (j2.ext (below_regrown _ _ _))
      rw [lEq_true rfl] at S1 S2
      obtain ⟨A1, c1, rfl, _, _⟩ := i1.form
      obtain ⟨A2, c2, rfl, _, _⟩ := i2.form
      obtain ⟨B1, e1', rfl, _, _⟩ := j1.form
      obtain ⟨B2, e2', rfl, _, _⟩ := j2.form
      have z1 := cellR e1
      have z2 := cellR d0
      have z3 := cellR d1
      have z4 := cellR e2
      have z5 := cellR f0
      have z6 := cellR f1
      generalize t.l.length = nl at *
      generalize t.r.length = nr at *
      clear i1 i2 j1 j2 hA hB
      go_wp2_with fail
      refine wp_region_ext (by kernel_rfl) (by kernel_rfl) ?_
      repeat (go_big_quiet_step ((go_at_call 79; first | (with_reducible exact Calls.extR (S1 _ _)) | (with_reducible exact Calls.extR (S2 _ _)))))
      refine wpQuiet_nil ?_
      intro w3 hx3
      clear S1 S2 z1 z2 z3 z4 z5 z6 d0 d1 e1 e2 f0 f1
      go_wp2_with fail
      go_roundw
      case rel => exact ⟨k + 1, by omega, by go_num, hx.trans hx3⟩
      case measure => simp [intOf]; omega
    · obtain rfl : k = c.tapes.length := by omega
      go_wp2
      go_ret
      exact ⟨rfl, hx⟩
set_option maxRecDepth 20000 in
theorem SameMultiConfig_c (c : MConfD) (av bv : Value) (w : World) (hA : Tapes w av c.tapes) (hB : Tapes w bv c.tapes) :
    Calls Tryz.prog 14 #[.agg #[.int .i64 c.q, av], .agg #[.int .i64 c.q, bv]] w fun e w' => e = .returned (.bool true) ∧ Ext w w' := by
  obtain ⟨A, ca, rfl, ha1, ha2⟩ := id hA.form
  obtain ⟨B, cb, rfl, hb1, hb2⟩ := id hB.form
  obtain ⟨g, hg⟩ : ∃ g, w.heap.size = g := ⟨_, rfl⟩
  obtain ⟨V, hV⟩ : ∃ V, V = (w.alloc (.cells #[.int .i64 c.q, .slice A c.tapes.length ca] 29)).alloc (.cells #[.int .i64 c.q, .slice B c.tapes.length cb] 29) := ⟨_, rfl⟩
  have hX : Ext w V := by rw [hV]; exact (Ext.alloc _ _).trans (Ext.alloc _ _)
  have bA : Blk V g 29 #[.int .i64 c.q, .slice A c.tapes.length ca] := by rw [hV]; exact (Blk.new _ _ _ _ hg).alloc _
  have bB : Blk V (g + 1) 29 #[.int .i64 c.q, .slice B c.tapes.length cb] := by rw [hV]; exact Blk.new _ _ _ _ (by simp [hg])
  have SA := l06Same_c g (g + 1) c _ _ V (bA.cell 0) (bA.cell 1) (hA.ext hX) (bB.cell 0) (bB.cell 1) (hB.ext hX)
  clear hA hB
  go_enter Tryz.func14, Tryz.ntmps14
  go_wp2_with fail
  try rw [← hV]
  try rw [hg]
  clear hV
  refine SA.mono ?_
  rintro e w1 ⟨rfl, hx1⟩
  go_wp2_with fail
  go_ret
  exact ⟨rfl, hX.trans hx1⟩
end Go.Proofs.YtkbpchdncljlbaaGreatDoor
end
section
set_option linter.unusedVariables false
set_option linter.unusedSimpArgs false
namespace Go.Proofs.YtkbpchdncljlbaaGreatDoor
open Go Go.RowKit Go.Proofs Go.Maps
set_option maxHeartbeats 400000
structure CellT (B b gO n d : Nat) (w : World) (u : Value) (xs : List Int) (W : World) : Prop where
  out : Blk W gO 50 #[.slice none 0 0, .slice none 0 0]
  own : OwnInts w.heap.size W u xs
  src : Src B W b (n + d)
  grown : w.grownBy W (some b)
theorem CellT.ext {B b gO n d : Nat} {w : World} {u : Value} {xs : List Int} {W W' : World} (h : CellT B b gO n d w u xs W) (he : Ext W W') : CellT B b gO n d w u xs W' :=
  ⟨h.out.ext he, ownsRow_ext h.own he, h.src.ext he, grownBy_trans h.grown (ext_grownBy he _)⟩
theorem CellT.src' {B b gO n d d' : Nat} {w : World} {u : Value} {xs : List Int} {W W' : World} (h : CellT B b gO n d w u xs W) (hs : Src B W' b (n + d')) (hg : W.grownBy W' (some b)) : CellT B b gO n d' w u xs W' :=
  ⟨blk_src h.src hg h.out (by decide), own_src h.src hg h.own (by decide), hs, grownBy_trans h.grown hg⟩
theorem CellT.snoc {B b gO n d : Nat} {w : World} {u v : Value} {xs ys : List Int} {W W' : World} (h : CellT B b gO n d w u xs W) (hB : B ≤ w.heap.size) (hb : b < w.heap.size)
    (ho : OwnInts w.heap.size W' v ys) (hg : W.grownBy W' u.ownBlock) : CellT B b gO n d w v ys W' :=
  ⟨Blk.apart h.out h.own (by decide) hg, ho, h.src.kept hg (fun k hk => by have := (h.own.lt k hk).1; exact ⟨by omega, by omega⟩),
   grownBy_step h.grown hg (fun k hk => .inl (h.own.lt k hk).1)⟩
def sliceLen : Value → Nat
  | .slice _ n _ => n
  | _ => 0
theorem own_new (w : World) : OwnInts w.heap.size (w.alloc (.cells #[] 2)) (.slice (some ⟨w.heap.size, 0, none⟩) 0 0) [] :=
  ⟨by simp [ivs], .inr ⟨w.heap.size, 0, #[], rfl, Nat.le_refl _, heap_alloc_new w _, by simp, by unfold maxLen; omega, rfl, by simp [ivs]⟩⟩
set_option maxRecDepth 20000 in
set_option maxHeartbeats 8000000 in
theorem l06DrawTape_c (B b n : Nat) (sy : Int) (w0 : World) (h : Src B w0 b n) (hB : B ≤ w0.heap.size) (h2 : 2 ≤ sy) (h6 : sy ≤ 6) (hn : n ≤ 100000000000) :
    Calls Tryz.prog 18 #[.pointer (some ⟨b, 0, none⟩), .int .i64 sy] w0 fun e w' => (∃ (A1 : Option Addr) (c1 : Nat) (A2 : Option Addr) (c2 : Nat) (t : TapeD), e = .returned (.agg #[.slice A1 t.l.length c1, .slice A2 t.r.length c2]) ∧ OwnInts w0.heap.size w' (.slice A1 t.l.length c1) t.l ∧ OwnInts w0.heap.size w' (.slice A2 t.r.length c2) t.r ∧ sideOk t.l sy 200 = true ∧ sideOk t.r sy 200 = true) ∧ Src B w' b (n + 500) ∧ w0.grownBy w' (some b) := by
  obtain ⟨i0, hi, hz0, hz1, hz2⟩ := info_parts intInfo
  have hbl := h.lt
  obtain ⟨gO, hgO⟩ : ∃ g, w0.heap.size = g := ⟨_, rfl⟩
  obtain ⟨w, hw⟩ : ∃ w, w = w0.alloc (.cells #[.slice none 0 0, .slice none 0 0] 50) := ⟨_, rfl⟩
  have eW : Ext w0 w := by rw [hw]; exact Ext.alloc _ _
  have bO : Blk w gO 50 #[.slice none 0 0, .slice none 0 0] := by rw [hw]; exact Blk.new _ _ _ _ hgO
  have hws : w.heap.size = gO + 1 := by rw [hw]; simp [hgO]
  obtain ⟨W, hW⟩ : ∃ W, W = w.alloc (.cells #[] 2) := ⟨_, rfl⟩
  have hX : Ext w W := by rw [hW]; exact Ext.alloc _ _
  have st0 : CellT B b gO n 0 w (.slice (some ⟨w.heap.size, 0, none⟩) 0 0) [] W :=
    ⟨bO.ext hX, by rw [hW]; exact own_new w, (h.ext eW).ext hX, ext_grownBy hX _⟩
  have HBa : Hid (B ≤ w.heap.size) := Lib.hid (by omega)
  have HBLa : Hid (b < w.heap.size) := Lib.hid (by omega)
  have HE := Lib.hid eW
  have HB0 := Lib.hid hB
  rw [hws] at st0
  have HWS := Lib.hid hws
  have HGO := Lib.hid hgO
  clear h hX eW bO
  go_enter Tryz.func18, Tryz.ntmps18
  go_wp2_with fail
  try rw [← hw]
  try rw [hws]
  try rw [← hW]
  clear hW hB hbl hw hws hgO
  refine (pick_c B b _ 4 W st0.src (by omega)).mono ?_
  rintro e waa ⟨⟨xa, rfl, x0, _, x2⟩, hs1, hg1⟩
  have x3 := x2 (by omega)
  clear x2
  have saa := st0.src' (d' := 2) hs1 hg1
  obtain ⟨Ka, rfl⟩ := Int.eq_ofNat_of_zero_le x0
  have HKa : Hid (Ka ≤ 4) := Lib.hid (by omega)
  clear st0 hs1 hg1
  go_wp2_with fail
  go_loopw [5, 6] (fun u i wr => ∃ (xs : List Int), xs.length ≤ Ka ∧ i = .int .i64 ((Ka - xs.length : Nat) : Int) ∧ CellT B b gO n (2 + 2 * xs.length) w u xs wr ∧ Hid (∀ z ∈ xs, 0 ≤ z ∧ z < sy)) (fun _ i _ => (intOf i).toNat)
  case atStart => exact ⟨[], Nat.zero_le _, rfl, saa, Lib.hid (fun z hz => by simp at hz)⟩
  case round =>
    clear saa
    obtain ⟨xsa, hk, rfl, stk, HAa⟩ := hrel
    obtain ⟨Aua, cua, rfl, _, _⟩ := stk.own.ints.form
    by_cases hlt : xsa.length < Ka
    · have hd : decide ((0 : Int) < ((Ka - xsa.length : Nat) : Int)) = true := by simp; omega
      go_wp2_with fail
      refine (pick_c B b _ sy _ stk.src (by omega)).mono ?_
      rintro e w2 ⟨⟨z, rfl, z0, _, z2⟩, hs2, hg2⟩
      have HZ := Lib.hid (z2 (by omega))
      have st2 := stk.src' (d' := 2 + 2 * xsa.length + 2) hs2 hg2
      have HZ0 := Lib.hid z0
      clear stk hs2 hg2 z2 z0
      have ho1 : w2.ownsRow w.heap.size 2 1 (.slice Aua xsa.length cua) xsa.length (ivs xsa) := st2.own
      have ho' := ho1.alloc (.cells #[.int .i64 z] 2)
      have st3 := st2.ext (Ext.alloc w2 (.cells #[.int .i64 z] 2))
      have hs := st2.grown.size
      go_wp2_with (at_builtin; refine wpList_append_own_at _ rfl _ _ 48 rfl w.heap.size 2 i0 (.int .i64 0) 1 8 Tryz.underlying48 hi hz0 hz1 hz2 rfl (by decide) _ _ _ rfl ho' ⟨w2.heap.size, 0, none⟩ 1 1 [.int .i64 z] rfl rfl (cell_one_new _ _ _) ?c2 ?c3 ?c4 ?c5 ?_)
      case c2 => intro u hu; simp at hu; subst hu; rfl
      case c3 => unfold maxLen; omega
      case c4 => omega
      case c5 => simp; omega
      intro v' w4 hown4 hg4 _ hloc
      obtain ⟨A', c', rfl, _, _, _⟩ := (ownsRow_row hown4).form
      have st4 := st3.snoc (ys := xsa ++ [z]) HBa.out HBLa.out (by simpa [OwnInts, ivs_append, ivs] using hown4) hg4
      have hKk : ((Ka - xsa.length : Nat) : Int) - 1 = ((Ka - (xsa.length + 1) : Nat) : Int) := by omega
      have HS := Lib.hid st4
      clear st2 st3 st4 ho' ho1 hown4 hg4
      go_wp2_with fail
      go_roundw
      case rel => exact ⟨xsa ++ [z], by simp; omega, by first | (rw [hKk]; simp; done) | (simp; done) | (simp; omega), by simpa [Nat.mul_add, Nat.add_assoc] using HS.out, Lib.hid (fun y hy => by
        rcases List.mem_append.1 hy with hy | hy
        · exact HAa.out y hy
        · rw [List.mem_singleton.1 hy]; exact ⟨HZ0.out, HZ.out⟩)⟩
      case measure => simp [intOf]; omega
    · have hke : xsa.length = Ka := by omega
      have HKEa := Lib.hid hke
      clear hke
      have hd : decide ((0 : Int) < ((Ka - xsa.length : Nat) : Int)) = false := by simp; omega
      obtain ⟨wl, hwl⟩ : ∃ x, x = wr := ⟨_, rfl⟩
      subst hwl
      have sz1 := stk.grown.size
      obtain ⟨g1, hg1⟩ : ∃ g, wl.heap.size = g := ⟨_, rfl⟩
      obtain ⟨W1, hW1⟩ : ∃ W, W = wl.alloc (.cells #[] 2) := ⟨_, rfl⟩
      have hX1 : Ext wl W1 := by rw [hW1]; exact Ext.alloc _ _
      have st1 : CellT B b gO n (2 + 2 * xsa.length) wl (.slice (some ⟨wl.heap.size, 0, none⟩) 0 0) [] W1 :=
        ⟨stk.out.ext hX1, by rw [hW1]; exact own_new wl, stk.src.ext hX1, ext_grownBy hX1 _⟩
      have HBb : Hid (B ≤ wl.heap.size) := Lib.hid (by have := HBa.out; omega)
      have HBLb : Hid (b < wl.heap.size) := stk.src.lt
      have HGW := Lib.hid stk.grown
      have HOA := Lib.hid stk.own
      have HSA := Lib.hid stk.src
      rw [hg1] at st1
      have HG1 := Lib.hid hg1
      have HLA : Hid (xsa.length ≤ 4) := Lib.hid (by have := HKEa.out; have := HKa.out; omega)
      have hla : xsa.length ≤ 4 := HLA.out
      clear stk hX1 hd
      go_wp2_with fail
      try rw [hg1]
      try rw [← hW1]
      clear hW1 hg1
      refine (pick_c B b _ 5 W1 st1.src (by omega)).mono ?_
      rintro e wab ⟨⟨xb, rfl, x0, _, x2⟩, hs1, hg1⟩
      have x3 := x2 (by omega)
      clear x2
      have sab := st1.src' (d' := (2 + 2 * xsa.length + 2)) hs1 hg1
      obtain ⟨Kb, rfl⟩ := Int.eq_ofNat_of_zero_le x0
      have HKb : Hid (Kb ≤ 5) := Lib.hid (by omega)
      clear st1 hs1 hg1
      go_wp2_with fail
      go_loopw [7, 8] (fun u i wr => ∃ (xs : List Int), xs.length ≤ Kb ∧ i = .int .i64 ((Kb - xs.length : Nat) : Int) ∧ CellT B b gO n ((2 + 2 * xsa.length + 2) + 2 * xs.length) wl u xs wr ∧ Hid (∀ z ∈ xs, 0 ≤ z ∧ z < sy)) (fun _ i _ => (intOf i).toNat)
      case atStart => exact ⟨[], Nat.zero_le _, rfl, sab, Lib.hid (fun z hz => by simp at hz)⟩
      case round =>
        clear sab
        obtain ⟨xsb, hk, rfl, stk, HAb⟩ := hrel
        obtain ⟨Aub, cub, rfl, _, _⟩ := stk.own.ints.form
        by_cases hlt : xsb.length < Kb
        · have hd : decide ((0 : Int) < ((Kb - xsb.length : Nat) : Int)) = true := by simp; omega
          go_wp2_with fail
          refine (pick_c B b _ sy _ stk.src (by omega)).mono ?_
          rintro e w2 ⟨⟨z, rfl, z0, _, z2⟩, hs2, hg2⟩
          have HZ := Lib.hid (z2 (by omega))
          have st2 := stk.src' (d' := (2 + 2 * xsa.length + 2) + 2 * xsb.length + 2) hs2 hg2
          have HZ0 := Lib.hid z0
          clear stk hs2 hg2 z2 z0
          have ho1 : w2.ownsRow wl.heap.size 2 1 (.slice Aub xsb.length cub) xsb.length (ivs xsb) := st2.own
          have ho' := ho1.alloc (.cells #[.int .i64 z] 2)
          have st3 := st2.ext (Ext.alloc w2 (.cells #[.int .i64 z] 2))
          have hs := st2.grown.size
          go_wp2_with (at_builtin; refine wpList_append_own_at _ rfl _ _ 48 rfl wl.heap.size 2 i0 (.int .i64 0) 1 8 Tryz.underlying48 hi hz0 hz1 hz2 rfl (by decide) _ _ _ rfl ho' ⟨w2.heap.size, 0, none⟩ 1 1 [.int .i64 z] rfl rfl (cell_one_new _ _ _) ?c2 ?c3 ?c4 ?c5 ?_)
          case c2 => intro u hu; simp at hu; subst hu; rfl
          case c3 => unfold maxLen; omega
          case c4 => omega
          case c5 => simp; omega
          intro v' w4 hown4 hg4 _ hloc
          obtain ⟨A', c', rfl, _, _, _⟩ := (ownsRow_row hown4).form
          have st4 := st3.snoc (ys := xsb ++ [z]) HBb.out HBLb.out (by simpa [OwnInts, ivs_append, ivs] using hown4) hg4
          have hKk : ((Kb - xsb.length : Nat) : Int) - 1 = ((Kb - (xsb.length + 1) : Nat) : Int) := by omega
          have HS := Lib.hid st4
          clear st2 st3 st4 ho' ho1 hown4 hg4
          go_wp2_with fail
          go_roundw
          case rel => exact ⟨xsb ++ [z], by simp; omega, by first | (rw [hKk]; simp; done) | (simp; done) | (simp; omega), by simpa [Nat.mul_add, Nat.add_assoc] using HS.out, Lib.hid (fun y hy => by
            rcases List.mem_append.1 hy with hy | hy
            · exact HAb.out y hy
            · rw [List.mem_singleton.1 hy]; exact ⟨HZ0.out, HZ.out⟩)⟩
          case measure => simp [intOf]; omega
        · have hke : xsb.length = Kb := by omega
          have HKEb := Lib.hid hke
          clear hke
          have hd : decide ((0 : Int) < ((Kb - xsb.length : Nat) : Int)) = false := by simp; omega
          have hlb : xsb.length ≤ 5 := by have := HKEb.out; have := HKb.out; omega
          clear hd
          go_wp2_with fail
          refine (one_c B b _ 25 _ stk.src (by omega)).mono ?_
          rintro e w2 ⟨⟨q, rfl⟩, hs2, hg2⟩
          have st2 := stk.src' (d' := 30) (hs2.mono (by omega)) hg2
          clear stk hs2 hg2
          go_upto_if 37 with fail
          go_cut [7] (fun u wx => ∃ ys : List Int, CellT B b gO n 60 wl u ys wx ∧ ys.length ≤ 200 ∧ Hid (∀ z ∈ ys, 0 ≤ z ∧ z < sy))
          case first =>
            cases q with
            | false =>
              go_wp2_with fail
              go_meet
              exact ⟨xsb, ⟨st2.out, st2.own, st2.src.mono (by omega), st2.grown⟩, by omega, HAb⟩
            | true =>
              obtain ⟨gs, hgs⟩ : ∃ g, w2.heap.size = g := ⟨_, rfl⟩
              obtain ⟨W3, hW3⟩ : ∃ W, W = w2.alloc (.cells #[.int .i64 199, .int .i64 200] 2) := ⟨_, rfl⟩
              have e3 : Ext w2 W3 := by rw [hW3]; exact Ext.alloc _ _
              have b3 : Blk W3 gs 2 #[.int .i64 199, .int .i64 200] := by rw [hW3]; exact Blk.new _ _ _ _ hgs
              have st3 := st2.ext e3
              have AM := among_c B 0 b _ _ [199, 200] W3 st3.src (own2 b3 (Nat.zero_le _)) (by simp) (by omega)
              clear st2 e3 b3
              go_wp2_with fail
              try rw [← hW3]
              try rw [hgs]
              clear hW3 hgs
              refine AM.mono ?_
              rintro e w4 ⟨⟨M, rfl, hM⟩, hs4, hg4⟩
              have st4 := st3.src' (d' := 32) hs4 hg4
              have hM1 : 199 ≤ M ∧ M ≤ 200 := by
                simp at hM
                omega
              clear hM AM st3 hs4 hg4
              go_wp2_with fail
              go_loopw [7] (fun u wr => ∃ (ys : List Int), ys.length ≤ 200 ∧ CellT B b gO n 32 wl u ys wr ∧ Hid (∀ z ∈ ys, 0 ≤ z ∧ z < sy)) (fun u _ => 200 - (sliceLen u))
              case atStart => exact ⟨xsb, by omega, st4, HAb⟩
              case round =>
                clear st4
                obtain ⟨ys, hyl, stj, HY⟩ := hrel
                obtain ⟨Ay, cy, rfl, _, _⟩ := stj.own.ints.form
                by_cases hlt : (ys.length : Int) < M
                · have ho1 : wr.ownsRow wl.heap.size 2 1 (.slice Ay ys.length cy) ys.length (ivs ys) := stj.own
                  have ho' := ho1.alloc (.cells #[.int .i64 1] 2)
                  have st5 := stj.ext (Ext.alloc wr (.cells #[.int .i64 1] 2))
                  have hs := stj.grown.size
                  clear stj
                  go_wp2_with (at_builtin; refine wpList_append_own_at _ rfl _ _ 48 rfl wl.heap.size 2 i0 (.int .i64 0) 1 8 Tryz.underlying48 hi hz0 hz1 hz2 rfl (by decide) _ _ _ rfl ho' ⟨wr.heap.size, 0, none⟩ 1 1 [.int .i64 1] rfl rfl (cell_one_new _ _ _) ?c2 ?c3 ?c4 ?c5 ?_)
                  case c2 => intro u hu; simp at hu; subst hu; rfl
                  case c3 => unfold maxLen; omega
                  case c4 => omega
                  case c5 => simp; omega
                  intro v' w6 hown6 hg6 _ _
                  obtain ⟨A', c', rfl, _, _, _⟩ := (ownsRow_row hown6).form
                  have st6 := st5.snoc (ys := ys ++ [1]) HBb.out HBLb.out (by simpa [OwnInts, ivs_append, ivs] using hown6) hg6
                  have HS := Lib.hid st6
                  clear st5 st6 ho' ho1 hown6 hg6
                  go_wp2_with fail
                  go_roundw
                  case rel => exact ⟨ys ++ [1], by simp; omega, by simpa using HS.out, Lib.hid (fun y hy => by
                    rcases List.mem_append.1 hy with hy | hy
                    · exact HY.out y hy
                    · rw [List.mem_singleton.1 hy]; omega)⟩
                  case measure => simp [sliceLen]; omega
                · go_wp2_with fail
                  go_meet
                  exact ⟨ys, ⟨stj.out, stj.own, stj.src.mono (by omega), stj.grown⟩, hyl, HY⟩
          case rest =>
            rename World => wc
            obtain ⟨ys, stf, hyl, HY⟩ := hcut
            have HOL : OwnInts w.heap.size wc (.slice Aua xsa.length cua) xsa := own_src HSA.out stf.grown HOA.out (by decide)
            have HG : w0.grownBy wc (some b) := grownBy_trans (ext_grownBy HE.out _) (grownBy_trans HGW.out stf.grown)
            have T1 := l06Trim_c _ xsa wc HOL.ints (by omega)
            obtain ⟨Ay, cy, rfl, _, _⟩ := stf.own.ints.form
            clear HOL
            go_wp2_with fail
            refine T1.mono ?_
            rintro e w5 ⟨u, rfl, o5, hx5⟩
            obtain ⟨A5, c5, rfl, _, _⟩ := id o5.ints.form
            have st5 := stf.ext hx5
            have T2 := l06Trim_c _ ys w5 st5.own.ints (by omega)
            have hsz := stf.grown.size
            have hszl := HGW.out.size
            have hsz0 := HE.out.size
            clear T1 stf
            go_wp2_with fail
            refine T2.mono ?_
            rintro e w6 ⟨u, rfl, o6, hx6⟩
            obtain ⟨A6, c6, rfl, _, _⟩ := id o6.ints.form
            have st6 := st5.ext hx6
            have ob := st6.out.cell
            have of_ := st6.out.frozen
            have hx5s := hx5.size
            have o5' : OwnInts w0.heap.size w6 (.slice A5 (trim xsa).length c5) (trim xsa) := ownsRow_base (OwnInts.ext o5 hx6) (by omega)
            have o6' : OwnInts w0.heap.size w6 (.slice A6 (trim ys).length c6) (trim ys) := ownsRow_base o6 (by omega)
            have n5 : ∀ q, (Value.slice A5 (trim xsa).length c5).ownBlock = some q → q ≠ gO := fun q hq e => by
              subst e
              exact blk_ne_row st6.out o5' (by decide) hq.symm
            have n6 : ∀ q, (Value.slice A6 (trim ys).length c6).ownBlock = some q → q ≠ gO := fun q hq e => by
              subst e
              exact blk_ne_row st6.out o6' (by decide) hq.symm
            have HF : Hid (∀ a b', OwnInts w0.heap.size ((w6.setCell ⟨gO, 0, none⟩ a).setCell ⟨gO, 1, none⟩ b') (.slice A5 (trim xsa).length c5) (trim xsa) ∧ OwnInts w0.heap.size ((w6.setCell ⟨gO, 0, none⟩ a).setCell ⟨gO, 1, none⟩ b') (.slice A6 (trim ys).length c6) (trim ys) ∧ Src B ((w6.setCell ⟨gO, 0, none⟩ a).setCell ⟨gO, 1, none⟩ b') b (n + 500) ∧ w0.grownBy ((w6.setCell ⟨gO, 0, none⟩ a).setCell ⟨gO, 1, none⟩ b') (some b)) := Lib.hid fun a b' => by
              have hgO : w0.heap.size = gO := HGO.out
              have hB1 := HBa.out
              have hB0 := HB0.out
              have hB2 := HBLa.out
              have hW1 := HWS.out
              have s1 : ((w6.setCell ⟨gO, 0, none⟩ a).setCell ⟨gO, 1, none⟩ b').heap.size = w6.heap.size := by simp
              have hgs : w6.grownBy ((w6.setCell ⟨gO, 0, none⟩ a).setCell ⟨gO, 1, none⟩ b') (some gO) := grownBy_trans (set_grownBy w6 ⟨gO, 0, none⟩ a) (set_grownBy _ ⟨gO, 1, none⟩ b')
              have hbgO : gO ≠ b := by
                intro e
                subst e
                obtain ⟨_, _, _, _, _, hb, _⟩ := st6.src
                exact absurd (blk_type hb st6.out) (by decide)
              refine ⟨ownsRow_far (ownsRow_far o5' n5 a) n5 b', ownsRow_far (ownsRow_far o6' n6 a) n6 b', (st6.src.kept hgs (fun k hk => ?_)).mono (by omega), grownBy_step (grownBy_trans HG (ext_grownBy (hx5.trans hx6) _)) hgs (fun k hk => .inl ?_)⟩
              · injection hk with hk
                subst hk
                exact ⟨by omega, hbgO⟩
              · injection hk with hk
                omega
            have HT : Hid (sideOk (trim xsa) sy 200 = true ∧ sideOk (trim ys) sy 200 = true) := Lib.hid ⟨trim_side2 (by have := trim_len xsa; omega) (fun z hz => by have := HAa.out z hz; omega), trim_side2 (by have := trim_len ys; omega) (fun z hz => by have := HY.out z hz; omega)⟩
            generalize trim xsa = l1 at *
            generalize trim ys = l2 at *
            clear T2 st5 st6 o5 o6 o5' o6' n5 n6 hx5 hx6 HG
            go_wp2_with fail
            exact bodyPost_ret (v := .agg #[.slice A5 l1.length c5, .slice A6 l2.length c6]) (by simp [results, Tryz.results18, go_sem, ob]) rfl ⟨⟨A5, c5, A6, c6, ⟨l1, l2⟩, rfl, (HF.out _ _).1, (HF.out _ _).2.1, HT.out.1, HT.out.2⟩, (HF.out _ _).2.2.1, (HF.out _ _).2.2.2⟩
end Go.Proofs.YtkbpchdncljlbaaGreatDoor
end
