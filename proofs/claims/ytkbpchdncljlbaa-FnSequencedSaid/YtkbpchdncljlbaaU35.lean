/- Contract of the reference's run of a machine with several tapes.
Contract of the reference's test of a machine with several tapes. No condition. -/
import Derived.Test.YtkbpchdncljlbaaU34
import Derived.Test.YtkbpchdncljlbaaU18
import Derived.Test.YtkbpchdncljlbaaU25
section
set_option linter.unusedVariables false
set_option linter.unusedSimpArgs false
namespace Go.Proofs.Ytkbpchdncljlbaa
open Go Go.RowKit Go.Proofs Go.Maps
set_option maxHeartbeats 400000
/-- What a run of the reference gives. -/
def RunSR (rs : List MRuleD) (c : MConfD) (N : Nat) (e : Ending) : Prop :=
  (∃ i A cap, MEnd rs c N i ∧ e = .returned (.tuple #[.agg #[.int .i64 (cfgM rs c i).q, .slice A c.tapes.length cap], .int .i64 (i : Int), .bool (lookM rs (cfgM rs c i)).isNone, .int .i64 0])) ∨
  (∃ i, MFull rs c N i ∧ e = .returned (.tuple #[.agg #[.int .i64 0, .slice none 0 0], .int .i64 0, .bool false, .int .i64 5]))
theorem room_lens {c : MConfD} (h : roomM c = true) : ∀ t ∈ c.tapes, t.l.length ≤ 1000 ∧ t.r.length ≤ 1000 := fun t ht => by
  have := List.all_eq_true.1 h t ht
  simp only [roomT, Bool.and_eq_true, decide_eq_true_eq] at this
  omega
set_option maxRecDepth 20000 in
set_option maxHeartbeats 4000000 in
theorem l06Run_c (bm bc : Nat) (m : MultiD) (c : MConfD) (rv tv : Value) (N : Nat) (w : World) (hm : multiOk m = true) (hn : (c.tapes.length : Int) = m.tp) (hroom : roomM c = true) (hb : Blk w bm 29 #[.int .i64 m.tp, .int .i64 m.sy, .int .i64 m.st, rv]) (hr : MRules w rv m.rules)
    (q0 : w.cell? ⟨bc, 0, none⟩ = some (.int .i64 c.q)) (q1 : w.cell? ⟨bc, 1, none⟩ = some tv) (hT : Tapes w tv c.tapes) (hN : N ≤ 1000000) :
    Calls Try.prog 52 #[.pointer (some ⟨bm, 0, none⟩), .pointer (some ⟨bc, 0, none⟩), .int .i64 (N : Int)] w fun e w' => RunSR m.rules c N e ∧ Ext w w' := by
  obtain ⟨⟨t1, t2⟩, _⟩ := multi_all hm
  obtain ⟨g, hg⟩ : ∃ g, w.heap.size = g := ⟨_, rfl⟩
  obtain ⟨V, hV⟩ : ∃ V, V = w.alloc (.cells #[.int .i64 0, .slice none 0 0] 34) := ⟨_, rfl⟩
  have hX : Ext w V := by rw [hV]; exact Ext.alloc _ _
  have bO : Blk V g 34 #[.int .i64 0, .slice none 0 0] := by rw [hV]; exact Blk.new _ _ _ _ hg
  have h3 : c.tapes.length ≤ 3 := by omega
  have OW := l06Own_c bc c tv V (hX.cell q0) (hX.cell q1) (hT.ext hX) (by omega) (room_lens hroom)
  have HM := Lib.hid hm
  have HN : Hid ((c.tapes.length : Int) = m.tp) := hn
  have hVs : V.heap.size = g + 1 := by rw [hV]; simp [hg]
  rw [hVs] at OW
  have HRO := Lib.hid hroom
  clear hm hn hT q0 q1 hroom
  go_enter Try.func52, Try.ntmps52
  go_wp2_with fail
  try rw [← hV]
  try rw [hg]
  clear hV
  refine OW.mono ?_
  rintro e w1 ⟨⟨A1, cap1, rfl, ho1⟩, hx1⟩
  have hX1 := hX.trans hx1
  have bO1 := bO.ext hx1
  obtain ⟨W, hWW⟩ : ∃ W, W = w1.alloc (.cells #[.int .i64 c.q, .slice A1 c.tapes.length cap1] 34) := ⟨_, rfl⟩
  obtain ⟨gc, hgc⟩ : ∃ gc, w1.heap.size = gc := ⟨_, rfl⟩
  have hXW : Ext w1 W := by rw [hWW]; exact Ext.alloc _ _
  have bC : Blk W gc 34 #[.int .i64 c.q, .slice A1 c.tapes.length cap1] := by rw [hWW]; exact Blk.new _ _ _ _ hgc
  have bOW := bO1.ext hXW
  have hgl : g < gc := by rw [← hgc]; exact bO1.lt
  have hXWW := hX1.trans hXW
  have st0 : OwnT (g + 1) W (.slice A1 c.tapes.length cap1) (cfgM m.rules c 0).tapes := ho1.ext hXW
  have bC0 : Blk W gc 34 #[.int .i64 (cfgM m.rules c 0).q, .slice A1 c.tapes.length cap1] := bC
  clear OW hX bO bO1 hx1 hXW ho1 bC hX1 hVs
  go_wp2_with fail
  try rw [← hWW]
  try rw [hgc]
  clear hWW hgc
  go_loopw [11] (fun u wr => ∃ (k : Nat) (A : Option Addr) (cap : Nat), k ≤ N ∧ u = .int .i64 (k : Int) ∧ MRuns m.rules c k ∧ OwnT (g + 1) wr (.slice A c.tapes.length cap) (cfgM m.rules c k).tapes ∧ Ext w wr ∧ Blk wr g 34 #[.int .i64 0, .slice none 0 0] ∧ Blk wr gc 34 #[.int .i64 (cfgM m.rules c k).q, .slice A c.tapes.length cap]) (fun u _ => N - (intOf u).toNat)
  case atStart => exact ⟨0, A1, cap1, Nat.zero_le _, rfl, MRuns.zero HRO.out, st0, hXWW, bOW, bC0⟩
  case round =>
    clear st0 hXWW bOW bC0
    obtain ⟨k, A, cap, hk, rfl, hrun, st, hx, bO, bC⟩ := hrel
    have hsz := hx.size
    have RU := l06Rule_c bm gc m (cfgM m.rules c k) rv (.slice A c.tapes.length cap) wr HM.out (by rw [cfgM_tapes]; exact HN.out) (hb.ext hx) (hr.ext hx) (bC.cell 0) (bC.cell 1) st.tapes
    have hKL := cfgM_tapes m.rules c k
    have HKL := Lib.hid hKL
    have HRUN := Lib.hid hrun
    clear hKL hrun
    cases hlk : lookM m.rules (cfgM m.rules c k) with
    | none =>
      rw [hlk] at RU
      simp only [ixOf] at RU
      have HE : Hid (MEnd m.rules c N k) := ⟨HRUN.out, hk, .inr hlk⟩
      have HLK := Lib.hid hlk
      clear hlk
      go_wp2_with fail
      refine RU.mono ?_
      rintro e w3 ⟨rfl, hx3⟩
      have bC3 := bC.ext hx3
      have bO3 := bO.ext hx3
      have y0 := bC3.cell 0
      have y1 := bC3.cell 1
      simp only [List.getElem?_toArray, List.getElem?_cons_zero, List.getElem?_cons_succ] at y0 y1
      have ob := bO3.cell
      have of_ := bO3.frozen
      have HX : Hid (∀ a b, Ext w ((w3.setCell ⟨g, 0, none⟩ a).setCell ⟨g, 1, none⟩ b)) := Lib.hid fun a b => ((hx.trans hx3).setCell (p := ⟨g, 0, none⟩) (by show w.heap.size ≤ g; omega) a).setCell (p := ⟨g, 1, none⟩) (by show w.heap.size ≤ g; omega) b
      obtain ⟨q, hqq⟩ : ∃ q, (cfgM m.rules c k).q = q := ⟨_, rfl⟩
      rw [hqq] at y0
      have HQQ := Lib.hid hqq
      obtain ⟨nt, hnt⟩ : ∃ n, c.tapes.length = n := ⟨_, rfl⟩
      have HNT := Lib.hid hnt
      rw [hnt] at y1
      clear RU st bC bO bC3 bO3 hqq hnt
      go_wp2_with fail
      exact bodyPost_ret (v := .tuple #[.agg #[.int .i64 q, .slice A nt cap], .int .i64 (k : Int), .bool true, .int .i64 0]) (by simp [results, Try.results52, go_sem, ob]) rfl ⟨.inl ⟨k, A, cap, HE.out, by rw [HQQ.out, HLK.out, HNT.out]; rfl⟩, HX.out _ _⟩
    | some j =>
      rw [hlk] at RU
      simp only [ixOf] at RU
      have hlt0 : decide ((j : Int) < 0) = false := decide_eq_false (by omega)
      have HLK := Lib.hid hlk
      clear hlk
      go_wp2_with fail
      refine RU.mono ?_
      rintro e w3 ⟨rfl, hx3⟩
      clear RU
      have bC3 := bC.ext hx3
      have bO3 := bO.ext hx3
      have hX3 := hx.trans hx3
      by_cases hkN : k = N
      · have heq : ((k : Int) == (N : Int)) = true := by simp [hkN]
        have HE : Hid (MEnd m.rules c N k) := ⟨HRUN.out, hk, .inl hkN⟩
        have y0 := bC3.cell 0
        have y1 := bC3.cell 1
        simp only [List.getElem?_toArray, List.getElem?_cons_zero, List.getElem?_cons_succ] at y0 y1
        have ob := bO3.cell
        have of_ := bO3.frozen
        have HX : Hid (∀ a b, Ext w ((w3.setCell ⟨g, 0, none⟩ a).setCell ⟨g, 1, none⟩ b)) := Lib.hid fun a b => (hX3.setCell (p := ⟨g, 0, none⟩) (by show w.heap.size ≤ g; omega) a).setCell (p := ⟨g, 1, none⟩) (by show w.heap.size ≤ g; omega) b
        obtain ⟨q, hqq⟩ : ∃ q, (cfgM m.rules c k).q = q := ⟨_, rfl⟩
        rw [hqq] at y0
        have HQQ := Lib.hid hqq
        obtain ⟨nt, hnt⟩ : ∃ n, c.tapes.length = n := ⟨_, rfl⟩
        have HNT := Lib.hid hnt
        rw [hnt] at y1
        clear st bC bO bC3 bO3 hqq hnt hkN
        go_wp2_with fail
        exact bodyPost_ret (v := .tuple #[.agg #[.int .i64 q, .slice A nt cap], .int .i64 (k : Int), .bool false, .int .i64 0]) (by simp [results, Try.results52, go_sem, ob]) rfl ⟨.inl ⟨k, A, cap, HE.out, by rw [HQQ.out, HLK.out, HNT.out]; rfl⟩, HX.out _ _⟩
      · have heq : ((k : Int) == (N : Int)) = false := by rw [beq_eq_false_iff_ne]; omega
        have hro := room_lens (HRUN.out.room k (Nat.le_refl _))
        have ST := l06Step_c bm gc m (cfgM m.rules c k) rv (.slice A c.tapes.length cap) w3 HM.out (by rw [HKL.out]; exact HN.out) (hb.ext hX3) (hr.ext hX3) (bC3.cell 0) (bC3.cell 1) (st.tapes.ext hx3) hro
        clear hro st
        go_wp2_with fail
        refine ST.mono ?_
        rintro e w4 ⟨hS, hx4⟩
        have bC4 := bC3.ext hx4
        have bO4 := bO3.ext hx4
        have hX4 := hX3.trans hx4
        have hgc4 : gc < w4.heap.size := bC4.lt
        have hgl4 : g < w4.heap.size := bO4.lt
        unfold StepRS at hS
        rw [HLK.out] at hS
        rcases hS with ⟨h, _⟩ | ⟨j', hj', hfull, rfl⟩ | ⟨j', A', cap', hj', hroom', rfl, hown⟩
        · cases h
        · injection hj' with hj'
          subst hj'
          have HF : Hid (MFull m.rules c N (k + 1)) := ⟨by omega, by simpa using HRUN.out, by omega, by rw [Nat.add_sub_cancel, HLK.out]; exact Option.some_ne_none _, by
            show roomM (stepM m.rules (cfgM m.rules c k)) = false
            rw [step_some HLK.out]
            exact hfull⟩
          have ob := bO4.cell
          have of_ := bO4.frozen
          have HX : Hid (∀ a b, Ext w (((w4.setCell ⟨g, 0, none⟩ a).setCell ⟨g, 1, none⟩ b).alloc (.cells #[.int .i64 0, .slice none 0 0] 34))) := Lib.hid fun a b => ((hX4.setCell (p := ⟨g, 0, none⟩) (by show w.heap.size ≤ g; omega) a).setCell (p := ⟨g, 1, none⟩) (by show w.heap.size ≤ g; omega) b).trans (Ext.alloc _ _)
          clear ST bC bO bC3 bO3 bC4 bO4 hX4 hfull
          go_wp2_with fail
          exact bodyPost_ret (v := .tuple #[.agg #[.int .i64 0, .slice none 0 0], .int .i64 0, .bool false, .int .i64 5]) (by simp [results, Try.results52, go_sem, ob, hgl4]) rfl ⟨.inr ⟨k + 1, HF.out, rfl⟩, HX.out _ _⟩
        · injection hj' with hj'
          subst hj'
          have hcf : cfgM m.rules c (k + 1) = applyM (cfgM m.rules c k) (m.rules.getD j mr0) := step_some HLK.out
          have HRUN2 : Hid (MRuns m.rules c (k + 1)) := HRUN.out.succ (by rw [HLK.out]; exact Option.some_ne_none _) (by rw [hcf]; exact hroom')
          rw [HKL.out, ← hcf] at hown
          have HKL2 := HKL.out
          obtain ⟨q, hqq⟩ : ∃ q, (cfgM m.rules c (k + 1)).q = q := ⟨_, rfl⟩
          have HQQ : Hid ((cfgM m.rules c (k + 1)).q = q) := hqq
          have hq3 : (applyM (cfgM m.rules c k) (m.rules.getD j mr0)).q = q := by rw [← hcf]; exact hqq
          rw [hq3, HKL.out]
          have st5 : OwnT (g + 1) w4 (.slice A' c.tapes.length cap') (cfgM m.rules c (k + 1)).tapes := hown.low (by have := hX3.size; have := bC3.lt; omega)
          have ob := bC4.cell
          have of_ := bC4.frozen
          have eA := Ext.alloc ((w4.setCell ⟨gc, 0, none⟩ (.int .i64 q)).setCell ⟨gc, 1, none⟩ (.slice A' c.tapes.length cap')) (.cells #[.int .i64 q, .slice A' c.tapes.length cap'] 34)
          have HS := Lib.hid (((st5.far bC4 (by decide) (by decide) 0 (.int .i64 q)).far (bC4.set_ 0 _) (by decide) (by decide) 1 (.slice A' c.tapes.length cap')).ext eA)
          have HX := Lib.hid (((hX4.setCell (p := ⟨gc, 0, none⟩) (by show w.heap.size ≤ gc; omega) (.int .i64 q)).setCell (p := ⟨gc, 1, none⟩) (by show w.heap.size ≤ gc; omega) (.slice A' c.tapes.length cap')).trans eA)
          have HO := Lib.hid (((bO4.far (p := ⟨gc, 0, none⟩) (by show g ≠ gc; omega) (.int .i64 q)).far (p := ⟨gc, 1, none⟩) (by show g ≠ gc; omega) (.slice A' c.tapes.length cap')).ext eA)
          have HC : Hid (Blk (((w4.setCell ⟨gc, 0, none⟩ (.int .i64 q)).setCell ⟨gc, 1, none⟩ (.slice A' c.tapes.length cap')).alloc (.cells #[.int .i64 q, .slice A' c.tapes.length cap'] 34)) gc 34 #[.int .i64 (cfgM m.rules c (k + 1)).q, .slice A' c.tapes.length cap']) := Lib.hid (by
            rw [hqq]
            exact ((bC4.set_ 0 (.int .i64 q)).set_ 1 (.slice A' c.tapes.length cap')).ext eA)
          clear ST bC bO bC3 bO3 bC4 bO4 hX4 hown hcf hq3 hqq hroom' st5 hX3 hx HKL2 eA
          go_wp2_with fail
          go_roundw
          case rel => exact ⟨k + 1, A', cap', by omega, by go_num, HRUN2.out, HS.out, HX.out, HO.out, HC.out⟩
          case measure => simp [intOf]; omega
end Go.Proofs.Ytkbpchdncljlbaa
end
section
set_option linter.unusedVariables false
set_option linter.unusedSimpArgs false
namespace Go.Proofs.Ytkbpchdncljlbaa
open Go Go.RowKit Go.Proofs
set_option maxHeartbeats 400000
set_option maxRecDepth 20000 in
set_option maxHeartbeats 4000000 in
theorem l06Is_c (bm : Nat) (m : MultiD) (rv : Value) (w : World) (hb : Blk w bm 29 #[.int .i64 m.tp, .int .i64 m.sy, .int .i64 m.st, rv]) (hr : MRules w rv m.rules) :
    Calls Try.prog 45 #[.pointer (some ⟨bm, 0, none⟩)] w fun e w' => e = .returned (.bool (multiOk m)) ∧ Ext w w' := by
  obtain ⟨A, c, rfl, hc1, hc2⟩ := hr.form
  have m0 := hb.cell 0
  have m1 := hb.cell 1
  have m2 := hb.cell 2
  have m3 := hb.cell 3
  simp only [List.getElem?_toArray, List.getElem?_cons_zero, List.getElem?_cons_succ] at m0 m1 m2 m3
  obtain ⟨K, hK⟩ : ∃ K, multiOk m = K := ⟨_, rfl⟩
  rw [hK]
  have HK := Lib.hid hK
  clear hK
  have L1 := fun w => l00In_c m.tp 2 3 w
  have L2 := fun w => l00In_c m.sy 2 3 w
  have L3 := fun w => l00In_c m.st 1 16 w
  go_enter Try.func45, Try.ntmps45
  go_wp2_with fail
  refine (L1 w).mono ?_
  rintro e _ ⟨rfl, rfl⟩
  cases h1 : inB m.tp 2 3 with
  | false =>
    have HE : Hid (K = false) := by unfold Hid; rw [← HK.out, multiOk, h1]; simp
    clear h1
    go_wp2_with fail
    go_ret
    exact ⟨by rw [HE.out]; rfl, Ext.refl _⟩
  | true =>
    have H1 := Lib.hid h1
    clear h1
    go_wp2_with fail
    refine (L2 _).mono ?_
    rintro e _ ⟨rfl, rfl⟩
    cases h2 : inB m.sy 2 3 with
    | false =>
      have HE : Hid (K = false) := by unfold Hid; rw [← HK.out, multiOk, h2]; simp
      clear h2
      go_wp2_with fail
      go_ret
      exact ⟨by rw [HE.out]; rfl, Ext.refl _⟩
    | true =>
      have H2 := Lib.hid h2
      clear h2
      go_wp2_with fail
      refine (L3 _).mono ?_
      rintro e _ ⟨rfl, rfl⟩
      cases h3 : inB m.st 1 16 with
      | false =>
        have HE : Hid (K = false) := by unfold Hid; rw [← HK.out, multiOk, h3]; simp
        clear h3
        go_wp2_with fail
        go_ret
        exact ⟨by rw [HE.out]; rfl, Ext.refl _⟩
      | true =>
        have H3 := Lib.hid h3
        clear h3
        by_cases h4 : m.rules.length ≤ 60
        · have i4 : ¬ (60 : Int) < (m.rules.length : Int) := by omega
          obtain ⟨t1, t2⟩ := inB_iff.1 H1.out
          obtain ⟨s1, s2⟩ := inB_iff.1 H2.out
          obtain ⟨q1, q2⟩ := inB_iff.1 H3.out
          have hw1 : IntKind.i64.wrap (m.st - 1) = m.st - 1 := IntWalk.i64_in _ (by omega)
          have hw2 : IntKind.i64.wrap (m.sy - 1) = m.sy - 1 := IntWalk.i64_in _ (by omega)
          clear L1 L2 L3
          go_wp2_with fail
          go_loopw [3] (fun i wr => ∃ k : Nat, k ≤ m.rules.length ∧ i = .int .i64 (k : Int) ∧ Ext w wr ∧ Hid (∀ j, j < k → mstepOk m j = true)) (fun i _ => m.rules.length - (intOf i).toNat)
          case atStart => exact ⟨0, Nat.zero_le _, rfl, Ext.refl _, Lib.hid fun j hj => by omega⟩
          case round =>
            obtain ⟨k, hk, rfl, hx, HOK⟩ := hrel
            have e0 := hx.cell m0
            have e1 := hx.cell m1
            have e2 := hx.cell m2
            have e3 := hx.cell m3
            by_cases hlt : k < m.rules.length
            · have hrr := hr.ext hx
              obtain ⟨b, off, vr, vw, vm, rfl, c0, c1, c2, c3, c4, j1, j2, j3⟩ := hrr.at hlt
              have hgd : m.rules.getD k mr0 = m.rules[k] := by rw [List.getD_eq_getElem?_getD, List.getElem?_eq_getElem hlt]; rfl
              have HBF : Hid (∀ (hp : 0 < k) (X : World), Ext wr X → Calls Try.prog 79 #[.pointer (some ⟨b, off + (k - 1) * 5, none⟩), .pointer (some ⟨b, off + k * 5, none⟩)] X fun e w' => e = .returned (.bool (decide (cmpM (m.rules.getD (k - 1) mr0) (m.rules.getD k mr0) < 0))) ∧ Ext X w') := Lib.hid fun hp X hX => by
                have hp1 : k - 1 < m.rules.length := by omega
                obtain ⟨b', off', vr', vw', vm', e', d0, d1, d2, d3, d4, k1, k2, k3⟩ := (hrr.ext hX).at hp1
                cases e'
                have hgp : m.rules.getD (k - 1) mr0 = m.rules[k - 1] := by rw [List.getD_eq_getElem?_getD, List.getElem?_eq_getElem hp1]; rfl
                rw [hgd, hgp]
                exact l06Before_c b _ b _ _ _ _ _ X d0 d1 (hX.cell c0) (hX.cell c1) k1 (j1.ext hX)
              have HMS : Hid (mstepOk m k = (mruleOk m (m.rules.getD k mr0) && (decide (k = 0) || decide (cmpM (m.rules.getD (k - 1) mr0) (m.rules.getD k mr0) < 0)))) := rfl
              obtain ⟨r, hrk⟩ : ∃ r, m.rules[k] = r := ⟨_, rfl⟩
              rw [hgd] at HBF HMS
              rw [hrk] at c0 c4 j1 j2 j3 HBF HMS
              clear hgd hrk
              obtain ⟨A1, k1, rfl, _, _⟩ := j1.form
              obtain ⟨A2, k2, rfl, _, _⟩ := j2.form
              obtain ⟨A3, k3, rfl, _, _⟩ := j3.form
              have I1 := fun X => l00In_c r.st 0 (m.st - 1) X
              have I2 := fun X => l00In_c r.nx 0 (m.st - 1) X
              have R1 := fun X (hX : Ext wr X) => l06Row_c _ r.rd m.tp 0 (m.sy - 1) X (j1.ext hX)
              have R2 := fun X (hX : Ext wr X) => l06Row_c _ r.wr m.tp 0 (m.sy - 1) X (j2.ext hX)
              have R3 := fun X (hX : Ext wr X) => l06Row_c _ r.mv m.tp (-1) 1 X (j3.ext hX)
              have HRO : Hid (mruleOk m r = (inB r.st 0 (m.st - 1) && inB r.nx 0 (m.st - 1) && ((decide ((r.rd.length : Int) = m.tp) && r.rd.all fun z => inB z 0 (m.sy - 1)) && (decide ((r.wr.length : Int) = m.tp) && r.wr.all fun z => inB z 0 (m.sy - 1)) && (decide ((r.mv.length : Int) = m.tp) && r.mv.all fun z => inB z (-1) 1)))) := by
                unfold Hid mruleOk allIn
                simp only [Bool.and_assoc, Bool.and_left_comm]
              generalize inB r.st 0 (m.st - 1) = y1 at *
              generalize inB r.nx 0 (m.st - 1) = y2 at *
              generalize (decide ((r.rd.length : Int) = m.tp) && r.rd.all fun z => inB z 0 (m.sy - 1)) = z1 at *
              generalize (decide ((r.wr.length : Int) = m.tp) && r.wr.all fun z => inB z 0 (m.sy - 1)) = z2 at *
              generalize (decide ((r.mv.length : Int) = m.tp) && r.mv.all fun z => inB z (-1) 1) = z3 at *
              have HNO : Hid (mruleOk m r = false → K = false) := Lib.hid fun h => by rw [← HK.out]; exact multi_no hlt (by rw [HMS.out, h]; rfl)
              have g0 := cellR e0
              have g1 := cellR e1
              have g2 := cellR e2
              have f0 := cellR c0
              have f4 := cellR c4
              have E0 := Lib.hid e0
              have E1 := Lib.hid e1
              have E3 := Lib.hid e3
              have C0 := Lib.hid c0
              have C1 := Lib.hid c1
              have C2 := Lib.hid c2
              have C3 := Lib.hid c3
              have R1H := Lib.hid R1
              have R2H := Lib.hid R2
              have R3H := Lib.hid R3
              clear hr hrr hb j1 j2 j3 m0 m1 m2 m3 e0 e1 e2 c0 c1 c2 c3 c4 R1 R2 R3
              generalize r.rd.length = l1 at *
              generalize r.wr.length = l2 at *
              generalize r.mv.length = l3 at *
              cases y1 with
              | false =>
                have HE : Hid (K = false) := Lib.hid (HNO.out (by rw [HRO.out]; simp))
                go_wp2_with fail
                refine wp_region_ext (by kernel_rfl) (by kernel_rfl) ?_
                repeat (go_big_quiet_step ((go_at_call 51; first | with_reducible exact Calls.sameR (I1 _) | with_reducible exact Calls.sameR (I2 _))))
                refine wpQuiet_nil ?_
                intro w2 hxw2
                go_wp2_with fail
                go_ret
                exact ⟨by rw [HE.out]; rfl, hx.trans hxw2⟩
              | true =>
                cases y2 with
                | false =>
                  have HE : Hid (K = false) := Lib.hid (HNO.out (by rw [HRO.out]; simp))
                  go_wp2_with fail
                  refine wp_region_ext (by kernel_rfl) (by kernel_rfl) ?_
                  repeat (go_big_quiet_step ((go_at_call 51; first | with_reducible exact Calls.sameR (I1 _) | with_reducible exact Calls.sameR (I2 _))))
                  refine wpQuiet_nil ?_
                  intro w2 hxw2
                  go_wp2_with fail
                  go_ret
                  exact ⟨by rw [HE.out]; rfl, hx.trans hxw2⟩
                | true =>
                  go_wp2_with fail
                  refine wp_region_ext (by kernel_rfl) (by kernel_rfl) ?_
                  repeat (go_big_quiet_step ((go_at_call 51; first | with_reducible exact Calls.sameR (I1 _) | with_reducible exact Calls.sameR (I2 _))))
                  refine wpQuiet_nil ?_
                  intro w2 hxw2
                  have a0 := hxw2.cell E0.out
                  have a1 := hxw2.cell E1.out
                  have b1 := hxw2.cell C1.out
                  have b2 := hxw2.cell C2.out
                  have b3 := hxw2.cell C3.out
                  have R1w := fun d os => R1H.out (Sort.grow (redrawn w2 d) os) (hxw2.trans (below_regrown _ _ _))
                  have R2w := fun d os => R2H.out (Sort.grow (redrawn w2 d) os) (hxw2.trans (below_regrown _ _ _))
                  have R3w := fun d os => R3H.out (Sort.grow (redrawn w2 d) os) (hxw2.trans (below_regrown _ _ _))
                  clear g0 g1 g2 f0 f4 I1 I2 e3
                  have g0 := cellR a0
                  have g1 := cellR a1
                  have f1 := cellR b1
                  have f2 := cellR b2
                  have f3 := cellR b3
                  cases z1 with
                  | false =>
                    have HE : Hid (K = false) := Lib.hid (HNO.out (by rw [HRO.out]; simp))
                    go_wp2_with fail
                    refine wp_region_ext (by kernel_rfl) (by kernel_rfl) ?_
                    repeat (go_big_quiet_step ((go_at_call 78; first | with_reducible exact Calls.sameR (R1w _ _) | with_reducible exact Calls.sameR (R2w _ _) | with_reducible exact Calls.sameR (R3w _ _))))
                    refine wpQuiet_nil ?_
                    intro w3 hxw3
                    go_wp2_with fail
                    go_ret
                    exact ⟨by rw [HE.out]; rfl, (hx.trans hxw2).trans hxw3⟩
                  | true =>
                    cases z2 with
                    | false =>
                      have HE : Hid (K = false) := Lib.hid (HNO.out (by rw [HRO.out]; simp))
                      go_wp2_with fail
                      refine wp_region_ext (by kernel_rfl) (by kernel_rfl) ?_
                      repeat (go_big_quiet_step ((go_at_call 78; first | with_reducible exact Calls.sameR (R1w _ _) | with_reducible exact Calls.sameR (R2w _ _) | with_reducible exact Calls.sameR (R3w _ _))))
                      refine wpQuiet_nil ?_
                      intro w3 hxw3
                      go_wp2_with fail
                      go_ret
                      exact ⟨by rw [HE.out]; rfl, (hx.trans hxw2).trans hxw3⟩
                    | true =>
                      cases z3 with
                      | false =>
                        have HE : Hid (K = false) := Lib.hid (HNO.out (by rw [HRO.out]; simp))
                        go_wp2_with fail
                        refine wp_region_ext (by kernel_rfl) (by kernel_rfl) ?_
                        repeat (go_big_quiet_step ((go_at_call 78; first | with_reducible exact Calls.sameR (R1w _ _) | with_reducible exact Calls.sameR (R2w _ _) | with_reducible exact Calls.sameR (R3w _ _))))
                        refine wpQuiet_nil ?_
                        intro w3 hxw3
                        go_wp2_with fail
                        go_ret
                        exact ⟨by rw [HE.out]; rfl, (hx.trans hxw2).trans hxw3⟩
                      | true =>
                        go_wp2_with fail
                        refine wp_region_ext (by kernel_rfl) (by kernel_rfl) ?_
                        repeat (go_big_quiet_step ((go_at_call 78; first | with_reducible exact Calls.sameR (R1w _ _) | with_reducible exact Calls.sameR (R2w _ _) | with_reducible exact Calls.sameR (R3w _ _))))
                        refine wpQuiet_nil ?_
                        intro w3 hxw3
                        have HRT : Hid (mruleOk m r = true) := Lib.hid (by rw [HRO.out]; rfl)
                        have n3 := (hxw2.trans hxw3).cell E3.out
                        clear g0 g1 f1 f2 f3 R1w R2w R3w HNO HRO a0 a1 b1 b2 b3
                        have hX3 := hxw2.trans hxw3
                        have hXA := hx.trans hX3
                        by_cases h0 : k = 0
                        · subst h0
                          have HS : Hid (∀ j, j < 0 + 1 → mstepOk m j = true) := Lib.hid fun j hj => by
                            obtain rfl : j = 0 := by omega
                            rw [HMS.out, HRT.out]
                            rfl
                          clear hx hxw2 hxw3 HBF
                          go_wp2_with fail
                          go_roundw
                          case rel => exact ⟨0 + 1, by omega, by go_num, hXA, HS.out⟩
                          case measure => simp [intOf]; omega
                        · obtain ⟨j, rfl⟩ : ∃ j, k = j + 1 := ⟨k - 1, by omega⟩
                          have BF := HBF.out (by omega) w3 hX3
                          simp only [Nat.add_sub_cancel] at BF HMS
                          generalize cmpM (m.rules.getD j mr0) r = y at *
                          have hk1 : (((j + 1 : Nat) : Int) - 1) = (j : Int) := by omega
                          have hk2 : IntKind.i64.wrap (((j + 1 : Nat) : Int) - 1) = (j : Int) := by rw [hk1]; exact IntWalk.i64_in _ (by omega)
                          have hk3 : IntKind.i64.wrap (j : Int) = (j : Int) := IntWalk.i64_in _ (by omega)
                          clear HBF hx hxw2 hxw3
                          cases hy : decide (y < 0) with
                          | false =>
                            have HE : Hid (K = false) := by unfold Hid; rw [← HK.out]; exact multi_no hlt (by rw [HMS.out, hy]; simp)
                            rw [hy] at BF
                            clear hy
                            go_wp2_with fail
                            refine BF.mono ?_
                            rintro e w4 ⟨rfl, hx4⟩
                            go_wp2_with fail
                            go_ret
                            exact ⟨by rw [HE.out]; rfl, hXA.trans hx4⟩
                          | true =>
                            have HS : Hid (∀ i, i < j + 1 + 1 → mstepOk m i = true) := Lib.hid fun i hi => by
                              by_cases e : i = j + 1
                              · subst e
                                rw [HMS.out, HRT.out, hy]
                                simp
                              · exact HOK.out i (by omega)
                            rw [hy] at BF
                            clear hy
                            go_wp2_with fail
                            refine BF.mono ?_
                            rintro e w4 ⟨rfl, hx4⟩
                            go_wp2_with fail
                            go_roundw
                            case rel => exact ⟨j + 1 + 1, by omega, by go_num, hXA.trans hx4, HS.out⟩
                            case measure => simp [intOf]; omega
            · obtain rfl : k = m.rules.length := by omega
              have HE : Hid (K = true) := by
                unfold Hid
                rw [← HK.out]
                simp only [multiOk, H1.out, H2.out, H3.out, Bool.and_eq_true, decide_eq_true_eq, List.all_eq_true, List.mem_range]
                exact ⟨⟨⟨⟨trivial, trivial⟩, trivial⟩, h4⟩, fun j hj => HOK.out j hj⟩
              go_wp2_with fail
              go_ret
              exact ⟨by rw [HE.out]; rfl, hx⟩
        · have i4 : (60 : Int) < (m.rules.length : Int) := by omega
          have HE : Hid (K = false) := by unfold Hid; rw [← HK.out, multiOk, decide_eq_false h4]; simp
          go_wp2_with fail
          go_ret
          exact ⟨by rw [HE.out]; rfl, Ext.refl _⟩
end Go.Proofs.Ytkbpchdncljlbaa
end
