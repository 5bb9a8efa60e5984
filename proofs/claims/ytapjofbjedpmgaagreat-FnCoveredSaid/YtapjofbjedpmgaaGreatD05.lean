/- Contract: the list of the configurations of a run by the program's runner. The machine is valid and the configuration is one of its.
Contract: the configurations of a run, at a valid machine and configuration and at most 60 steps.
Plain: an accepted proof covers all configurations of the run from the blank tape, and so does one with more parts. -/
import Derived.Test.YtapjofbjedpmgaaGreatC01
import Derived.Test.YtapjofbjedpmgaaGreatC02
import Derived.Test.YtapjofbjedpmgaaGreatC03
import Derived.Test.YtapjofbjedpmgaaGreatC04
import Derived.Test.YtapjofbjedpmgaaGreatC05
import Derived.Test.YtapjofbjedpmgaaGreatC06
import Derived.Test.YtapjofbjedpmgaaGreatC07
import Derived.Test.YtapjofbjedpmgaaGreatC08
import Derived.Test.YtapjofbjedpmgaaGreatC09
import Derived.Test.YtapjofbjedpmgaaGreatC10
import Derived.Test.YtapjofbjedpmgaaGreatC11
import Derived.Test.YtapjofbjedpmgaaGreatC12
import Derived.Test.YtapjofbjedpmgaaGreatC13
import Derived.Test.YtapjofbjedpmgaaGreatC14
import Derived.Test.YtapjofbjedpmgaaGreatC15
import Derived.Test.YtapjofbjedpmgaaGreatC16
import Derived.Test.YtapjofbjedpmgaaGreatC17
import Derived.Test.YtapjofbjedpmgaaGreatC18
import Derived.Test.YtapjofbjedpmgaaGreatC19
import Derived.Test.YtapjofbjedpmgaaGreatC20
import Derived.Test.YtapjofbjedpmgaaGreatC21
import Derived.Test.YtapjofbjedpmgaaGreatC22
import Derived.Test.YtapjofbjedpmgaaGreatC23
import Derived.Test.YtapjofbjedpmgaaGreatC24
import Derived.Test.YtapjofbjedpmgaaGreatC25
import Derived.Test.YtapjofbjedpmgaaGreatC26
import Derived.Test.YtapjofbjedpmgaaGreatC27
import Derived.Test.YtapjofbjedpmgaaGreatC28
import Derived.Test.YtapjofbjedpmgaaGreatC29
import Derived.Test.YtapjofbjedpmgaaGreatC30
import Derived.Test.YtapjofbjedpmgaaGreatC31
import Derived.Test.YtapjofbjedpmgaaGreatC32
import Derived.Test.YtapjofbjedpmgaaGreatC33
import Derived.Test.YtapjofbjedpmgaaGreatC34
import Derived.Test.YtapjofbjedpmgaaGreatC35
import Derived.Test.YtapjofbjedpmgaaGreatC36
import Derived.Test.YtapjofbjedpmgaaGreatC37
import Derived.Test.YtapjofbjedpmgaaGreatC38
import Derived.Test.YtapjofbjedpmgaaGreatC39
import Derived.Test.YtapjofbjedpmgaaGreatC40
import Derived.Test.YtapjofbjedpmgaaGreatC41
import Derived.Test.YtapjofbjedpmgaaGreatC42
import Derived.Test.YtapjofbjedpmgaaGreatC43
import Derived.Test.YtapjofbjedpmgaaGreatC44
import Derived.Test.YtapjofbjedpmgaaGreatC45
import Derived.Test.YtapjofbjedpmgaaGreatC46
import Derived.Test.YtapjofbjedpmgaaGreatC47
import Derived.Test.YtapjofbjedpmgaaGreatC48
import Derived.Test.YtapjofbjedpmgaaGreatD01
import Derived.Test.YtapjofbjedpmgaaGreatD02
import Derived.Test.YtapjofbjedpmgaaGreatD03
import Derived.Test.YtapjofbjedpmgaaGreatD04
section
set_option linter.unusedSimpArgs false
set_option linter.unusedVariables false
namespace Go.Proofs.YtapjofbjedpmgaaGreat
open Go Go.RowKit Go.Proofs
attribute [local go_sem] Oper.semAt_some
set_option maxHeartbeats 400000
set_option maxRecDepth 100000 in
set_option maxHeartbeats 4000000 in
theorem traceOf_c (w : World) (M : MachD) (c : ConfD) (mv lv rv : Value) (N : Nat) (hN : N ≤ 100000) (hm : machOk M = true) (hc : confB M c = true) (hr : Rules w mv M.rules) (hl : Ints w lv c.l) (hq : Ints w rv c.r) (f1 : Flat lv) (f2 : Flat rv) :
    Calls Tryz.prog 46 #[.agg #[.int .i64 M.sy, .int .i64 M.st, mv], .agg #[.int .i64 c.q, lv, rv], .int .i64 N] w (TrcOut w M c N) := by
  obtain ⟨Am, cm, rfl, _, _⟩ := hr.form
  obtain ⟨Al, cl, rfl, _, _⟩ := hl.form
  obtain ⟨Ar, cr, rfl, _, _⟩ := hq.form
  obtain ⟨hg, hfit, ht⟩ := conf_good hc
  have hfi : fitI c = true := by simp [fitI, hfit]
  obtain ⟨k, hk⟩ : ∃ k, w.heap.size = k := ⟨_, rfl⟩
  obtain ⟨W, hW⟩ : ∃ W, (((w.alloc (.cells #[.int .i64 M.sy, .int .i64 M.st, .slice Am M.rules.length cm] 26)).alloc (.cells #[.int .i64 c.q, .slice Al c.l.length cl, .slice Ar c.r.length cr] 29)).alloc (.cells #[.slice none 0 0] 44)).alloc (.cells #[.int .i64 0] 2) = W := ⟨_, rfl⟩
  have hX : Ext w W := by rw [← hW]; exact (((Ext.alloc _ _).trans (Ext.alloc _ _)).trans (Ext.alloc _ _)).trans (Ext.alloc _ _)
  have bM : Blk W k 26 #[.int .i64 M.sy, .int .i64 M.st, .slice Am M.rules.length cm] := by rw [← hW]; exact (((Blk.new _ _ _ _ hk).alloc _).alloc _).alloc _
  have bC : Blk W (k + 1) 29 #[.int .i64 c.q, .slice Al c.l.length cl, .slice Ar c.r.length cr] := by rw [← hW]; exact ((Blk.new _ _ _ _ (by simp [hk])).alloc _).alloc _
  have bR : Blk W (k + 2) 44 #[.slice none 0 0] := by rw [← hW]; exact (Blk.new _ _ _ _ (by simp [hk])).alloc _
  have bE : Blk W (k + 3) 2 #[.int .i64 0] := by rw [← hW]; exact Blk.new _ _ _ _ (by simp [hk])
  have hz : W.heap.size = k + 4 := by rw [← hW]; simp [hk]
  have m0 := bM.cell 0
  have m1 := bM.cell 1
  have m2 := bM.cell 2
  have c0 := bC.cell 0
  have c1 := bC.cell 1
  have c2 := bC.cell 2
  simp only [List.getElem?_toArray, List.getElem?_cons_zero, List.getElem?_cons_succ] at m0 m1 m2 c0 c1 c2
  have hRO := runnerOf_c W M c _ _ _ (hr.ext hX) (hl.ext hX) (hq.ext hX) f1 f2 (by omega) (by omega)
  refine (callsIn_wide (n := 8)).1 ?_
  refine callsIn_of_wp_marks Tryz.func46 rfl trivial ?_ rfl
  simp only [Tryz.ntmps46, List.size_toArray, List.length_cons, List.length_nil, Nat.reduceAdd, Nat.reduceSub, Array.replicate_succ, Array.replicate_zero, List.push_toArray, List.append_toArray, List.nil_append, List.cons_append]
  gi_wp2_with fail
  try rw [hW]
  try rw [hk]
  clear hW
  refine ⟨trivial, (callsIn_wide.2 hRO).mono ?_⟩
  rintro e w1 ⟨b, lv1, rv1, rfl, hR1⟩
  have hRw := hR1.lowerC hX hr
  have hX1 : Ext W w1 := hR1.ext0
  have hb1 := hR1.low
  rw [hz] at hb1
  have hapk : ∀ i, i < k + 4 → Apt b i lv1 rv1 := fun i hi => ⟨by omega, fun e => by have := (hR1.l.lt i e).1; omega, fun e => by have := (hR1.r.lt i e).1; omega⟩
  have haph : ∀ i, w1.heap.size ≤ i → Apt b i lv1 rv1 := fun i hi => ⟨by have := hR1.blk.lt; omega, fun e => by have := (hR1.l.lt i e).2; omega, fun e => by have := (hR1.r.lt i e).2; omega⟩
  obtain ⟨h, hh⟩ : ∃ h, w1.heap.size = h := ⟨_, rfl⟩
  rw [hh] at haph
  have hkh : k + 4 ≤ h := by rw [← hh, ← hz]; exact hX1.size
  gi_wp2_with (refine ⟨trivial, ?_⟩; gi_at_call 85; refine (callsIn_wide.2 (steps_c _ (N : Int) _ ⟨_, rfl⟩)).mono ?_; rintro e w' ⟨rfl, rfl⟩)
  obtain ⟨W4, hW4⟩ : ∃ W4, W4 = ((((w1.alloc (.cells #[] 29)).alloc (.cells #[.pointer (some ⟨b, 0, none⟩)] 77)).alloc (.cells #[.slice (some ⟨h, 0, none⟩) 0 0] 44)).alloc (.cells #[.pointer (some ⟨b, 0, none⟩)] 77)).alloc (.cells #[.int .i64 (N : Int)] 2) := ⟨_, rfl⟩
  have hX4 : Ext w1 W4 := by rw [hW4]; exact ((((Ext.alloc _ _).trans (Ext.alloc _ _)).trans (Ext.alloc _ _)).trans (Ext.alloc _ _)).trans (Ext.alloc _ _)
  have hR4 := hRw.ext hX4
  have hB : BoxR W4 b (h + 1 + 1 + 1 + 1) (h + 1 + 1 + 1) N lv1 rv1 := by
    have a5 := haph (h + 1 + 1 + 1 + 1) (by omega)
    have a4 := haph (h + 1 + 1 + 1) (by omega)
    refine ⟨?_, ?_, a5.nl, a5.nr, a4.nl, a4.nr, a5.nb, a4.nb⟩
    · rw [hW4]; exact Blk.new _ _ _ _ (by simp [hh])
    · rw [hW4]; exact (Blk.new _ _ _ _ (by simp [hh])).alloc _
  have hV4 : VarC W4 k h b 0 (.slice (some ⟨h, 0, none⟩) 0 0) := by
    refine ⟨(bR.ext hX1).ext hX4, (bE.ext hX1).ext hX4, ?_, ?_⟩
    · rw [hW4]; exact (((Blk.new _ _ _ _ (by simp [hh])).alloc _).alloc _).alloc _
    · rw [hW4]; exact ((Blk.new _ _ _ _ (by simp [hh])).alloc _).alloc _
  have ho4 : W4.ownsRow h 29 3 (.slice (some ⟨h, 0, none⟩) 0 0) 0 (encL []) := by
    rw [hW4, ← hh]
    exact ownsRow_ext (World.ownsRow_made (base := w1.heap.size) (e := 29) (size := 3) w1 #[] 0 (by simp) (by unfold maxLen; omega) (by simp)) ((((Ext.alloc _ _).trans (Ext.alloc _ _)).trans (Ext.alloc _ _)).trans (Ext.alloc _ _))
  have hA4 : AptC b k h lv1 rv1 := fun i hi => by
    rcases hi with e | e | e | e
    · exact hapk i (by omega)
    · exact hapk i (by omega)
    · exact haph i (by omega)
    · exact haph i (by omega)
  have hT4 : ∀ g, (Value.slice (some ⟨h, 0, none⟩) 0 0).ownBlock = some g → Apt b g lv1 rv1 ∧ g ≠ h + 3 ∧ g ≠ h + 4 := fun g hg => by
    simp [Value.ownBlock] at hg
    subst hg
    exact ⟨haph _ (Nat.le_refl _), by omega, by omega⟩
  rw [← hW4]
  have hsz : W4.heap.size = h + 1 + 1 + 1 + 1 + 1 := by rw [hW4]; simp [hh]
  clear hW4
  have hlow : w.heap.size ≤ W4.heap.size := hR4.ext0.size
  have hwk : w.heap.size = k := hk
  clear hRO m0 m1 m2 c0 c1 c2 bM bC bR bE
  have h1 : 1 ≤ 8 := by omega
  refine wpIn_rangeFunc_W rfl h1 (gf := 110) (lb := #[.pointer (some ⟨h + 1 + 1 + 1 + 1, 0, none⟩), .pointer (some ⟨h + 1 + 1 + 1, 0, none⟩)]) rfl trivial (enters_of Tryz.func110 (by kernel_rfl) rfl)
    (steps1_w (8 - 1) (by omega) w W4 b (h + 1 + 1 + 1 + 1) (h + 1 + 1 + 1) M c (.slice Am M.rules.length cm) lv1 rv1 N hN hm hg hfi hR4 hB) (fun h k => KpR.trans h k) (fun W l o o' hl h1 h2 _ => KpR.turn W l o o' (by omega) (by omega) (by omega) h1 h2) (Below.refl _ _) (fun _ => rfl)
    (fun A B h => WrR.keeps h) (ICf w b M (.slice Am M.rules.length cm) k h c) (IxCf w b k h) (iCf_own hlow) (ixCf_own hlow) iCf_w (stR_own hlow) (sR_own hlow) (spR_own hlow)
    ⟨c, lv1, rv1, _, [], hR4, hA4, hV4, ho4, hT4, rfl, by omega, fun r hr => (by cases hr), rfl⟩
    (fun x => { tmps := #[.agg #[.int .i64 M.sy, .int .i64 M.st, .slice Am M.rules.length cm], .agg #[.int .i64 c.q, .slice Al c.l.length cl, .slice Ar c.r.length cr], .int .i64 (N : Int), .pointer (some ⟨k, 0, none⟩), .pointer (some ⟨k + 1, 0, none⟩), undef, .pointer (some ⟨k + 1 + 1, 0, none⟩), .pointer (some ⟨k + 1 + 1 + 1, 0, none⟩), .pointer (some ⟨h + 1, 0, none⟩), .pointer (some ⟨h + 1 + 1, 0, none⟩), undef, .bool x.2, .agg #[.int .i64 M.sy, .int .i64 M.st, .slice Am M.rules.length cm], .agg #[.int .i64 c.q, .slice Al c.l.length cl, .slice Ar c.r.length cr], .pointer (some ⟨b, 0, none⟩), .slice (some ⟨h, 0, none⟩) 0 0, .pointer (some ⟨b, 0, none⟩), .int .i64 (N : Int), .func (.func 110) #[] #[.pointer (some ⟨h + 1 + 1 + 1 + 1, 0, none⟩), .pointer (some ⟨h + 1 + 1 + 1, 0, none⟩)], .int .i64 x.1, .bool x.2, undef, undef, undef, undef, undef, undef, undef, undef], defers := [] }) ?assign ?body ?done ?stop
  case assign =>
    intro l x W K hK
    gi_wp2
    exact hK
  case body =>
    obtain ⟨i0, hi, hz0, hz1, hz2⟩ := info_parts cfgInfo
    rintro l pre ⟨n, room⟩ W' ⟨d, l1, r1, tv, rs, hR1, hA1, hV1, hoT, hT1, hpre, hzW, hEl, hMp⟩ ⟨i, l2, r2, hR2, hpl, hcase⟩ _
    obtain ⟨rfl, rfl⟩ := hR2.vals hR1
    clear hR1
    have hbl := hR2.blk.lt
    cases room with
    | true =>
      have hc2 : n = (i : Int) ∧ RunsTo M c i ∧ i ≤ N := by
        rcases hcase with ⟨e, h1, h2⟩ | ⟨e, _⟩
        · simp at e; exact ⟨e, h1, h2⟩
        · simp at e
      clear hcase
      obtain ⟨rfl, hRT, hiN⟩ := hc2
      obtain ⟨hf1, hf2⟩ := fit_both (hRT.fit i (Nat.le_refl _))
      rw [hpl] at hoT hpre hMp
      have b0 := hV1.t.cell 0
      have b2 := hV1.p.cell 0
      simp only [List.getElem?_toArray, List.getElem?_cons_zero] at b0 b2
      have b0 := (Ext.drew W').cell b0
      have b2 := (Ext.drew W').cell b2
      obtain ⟨At, ct, rfl, hct, hct2, _⟩ := (ownsRow_row hoT).form
      have hCF := config_c w W'.drew b M (cfgI M c i) _ _ _ (hR2.ext (Ext.drew W')) (by omega) (by omega)
      obtain ⟨CI, hCI⟩ : ∃ C, cfgI M c i = C := ⟨_, rfl⟩
      rw [hCI] at hCF hf1 hf2
      have HPRE : Hid (pre ++ [((i : Int), true)] = rndC (i + 1) ∧ firstC M c (i + 1) = firstC M c i ++ [CI]) := Lib.hid ⟨by rw [rndC_succ, ← hpre], by rw [firstC_succ, hCI]⟩
      clear hpre hRT hCI
      gi_wp2_with fail
      refine wpIn_region_ordT 4 (readsT [0, 1] (.stir 2 (.stir 3 .done))) (by kernel_rfl) (by kernel_rfl) (by kernel_rfl) (by rintro ⟨_, _, hh⟩; exact hh) (fun _ _ _ _ _ h => h) ?_
      simp only [readsT]
      iterate 2 (refine wpOrdT_read (v := ?_) (by rfl) (Or.inl ⟨by rfl, fun x hx => ?_⟩) ?_; rotate_left; (· have a1 := hx.cell b0; have a3 := hx.cell b2; go_simp; try with_reducible rfl); try simp only [Act.put, List.setIfInBounds_toArray, List.set_cons_zero, List.set_cons_succ])
      refine wpOrdT_keep (by rfl) (fun K hK => ?_)
      go_simp
      go_at_call 43
      refine hCF.mono ?_
      rintro e w2 ⟨lv2, rv2, rfl, ol2, or2, _, hx2⟩
      obtain ⟨A2, k2, rfl, _, _⟩ := ol2.ints.form
      obtain ⟨A3, k3, rfl, _, _⟩ := or2.ints.form
      refine hK _ _ hx2 ?_
      clear hK K
      refine wpOrdT_keep (by rfl) (fun K hK => ?_)
      go_simp
      refine hK _ _ (hx2.trans (Ext.alloc _ _)) ?_
      clear hK K
      refine wpOrdT_done ?_
      try simp only [List.drop_succ_cons, List.drop_zero]
      have hX3 : Ext W' w2 := (Ext.drew W').trans hx2
      have hs3 := hX3.size
      have hsD : W'.heap.size ≤ W'.drew.heap.size := (Ext.drew W').size
      clear hCF b0 b2
      go_wp2_with (at_builtin; refine wpList_append_own_at _ rfl _ _ 44 rfl h 29 i0 (.agg #[.int .i64 0, .slice none 0 0, .slice none 0 0]) 3 56 Tryz.underlying44 hi hz0 hz1 hz2 rfl (by decide) _ _ _ rfl ((ownsRow_ext hoT hX3).alloc _) ⟨w2.heap.size, 0, none⟩ 1 1 [.int .i64 CI.q, .slice A2 CI.l.length k2, .slice A3 CI.r.length k3] rfl rfl (World.news_of_block (heap_alloc_new w2 _)) ?c2 ?c3 ?c4 ?c5 ?_)
      case c2 => intro u hu; simp at hu; rcases hu with rfl | rfl | rfl <;> rfl
      case c3 => unfold maxLen; omega
      case c4 => omega
      case c5 => simp; omega
      intro v' w4 hown' hgrow _ hat
      obtain ⟨Av, cv, rfl, _, _, _⟩ := (ownsRow_row hown').form
      have hXa : Ext W' (w2.alloc (.cells #[.int .i64 CI.q, .slice A2 CI.l.length k2, .slice A3 CI.r.length k3] 29)) := hX3.trans (Ext.alloc _ _)
      have hoA := ownsRow_ext hoT hXa
      have hVa := hV1.ext hXa
      have V4 := hVa.kept hgrow (fun r e => .inr (hVa.row hoA r e))
      have hrow := fun r (e : (Value.slice At i ct).ownBlock = some r) => (⟨by have := (hoA.lt r e).1; omega, (hT1 r e).1⟩ : w.heap.size ≤ r ∧ Apt b r _ _)
      have hgw : w.heap.size ≤ h + 2 := by omega
      have ha2 := hA1 (h + 2) (.inr (.inr (.inr rfl)))
      have R4 := (hR2.ext hXa).rowC hgrow hrow
      have R5 := R4.apart (p := ⟨h + 2, 0, none⟩) ha2.nb ha2.nl ha2.nr hgw (.slice Av (i + 1) cv)
      have V5 := V4.setT hkh (.slice Av (i + 1) cv)
      have hlen' : (pre ++ [((i : Int), true)]).length = i + 1 := by rw [List.length_append, hpl]; rfl
      have hl1 := fun g e => (hR2.l.lt g e).2
      have hr1 := fun g e => (hR2.r.lt g e).2
      have hnew : ∀ g, W'.drew.heap.size ≤ g → Apt b g l2 r2 := fun g hg => ⟨by omega, fun e => by have := hl1 _ e; omega, fun e => by have := hr1 _ e; omega⟩
      have eA := Ext.alloc w2 (.cells #[.int .i64 CI.q, .slice A2 CI.l.length k2, .slice A3 CI.r.length k3] 29)
      have E1 : ElC _ h b l2 r2 (rs ++ [⟨CI, .slice A2 CI.l.length k2, .slice A3 CI.r.length k3⟩]) := (hEl.ext hXa).push (ownsRow_ext (ownsRow_base ol2 (by omega)) eA) (ownsRow_ext (ownsRow_base or2 (by omega)) eA) (fun g hg => hnew g (ol2.lt g hg).1) (fun g hg => hnew g (or2.lt g hg).1)
      have E2 := (E1.row hoA hgrow).far V4.t (.inl (by decide)) (.slice Av (i + 1) cv)
      have hbox : ∀ j, j < W'.heap.size → some j ≠ (Value.slice At i ct).ownBlock → j ≠ h + 2 → (w4.setCell ⟨h + 2, 0, none⟩ (.slice Av (i + 1) cv)).heap[j]? = W'.heap[j]? := fun j hj hne hn2 =>
        (Below.heap_setCell _ _ _ _ hn2).trans ((hgrow.block j (Nat.lt_of_lt_of_le hj hXa.size) hne).trans (Below.block hXa j hj))
      have hsz5 : W'.heap.size ≤ (w4.setCell ⟨h + 2, 0, none⟩ (.slice Av (i + 1) cv)).heap.size := by
        have a1 := hXa.size
        have a2 := hgrow.size
        have a3 := (grownBy_setCell w4 ⟨h + 2, 0, none⟩ (.slice Av (i + 1) cv)).size
        omega
      have hK4 : KeepsOthers W' w4 := (show KeepsOthers W' _ from ⟨Ext.size hXa, fun k o hk ho => (Below.block hXa k (Array.getElem?_eq_some_iff.1 hk).1).trans hk⟩).trans (KeepsOthers.of_grownBy hgrow (fun j o hj hl => by
        rcases hoA.2 with ⟨e, _⟩ | ⟨g', cap, cur, e, _, hg', _⟩
        · rw [e] at hj; simp [Value.ownBlock] at hj
        · rw [e] at hj
          simp [Value.ownBlock] at hj
          subst hj
          rw [hg'] at hl
          cases hl
          rfl))
      have hX5s := hXa.size
      have HF : Hid (KeepsFrom (h + 1 + 1 + 1 + 1 + 1) W' (w4.setCell ⟨h + 2, 0, none⟩ (.slice Av (i + 1) cv)) ∧ KpR w b (h + 1 + 1 + 1 + 1) (h + 1 + 1 + 1) M (.slice Am M.rules.length cm) W' (w4.setCell ⟨h + 2, 0, none⟩ (.slice Av (i + 1) cv)) ∧ ICf w b M (.slice Am M.rules.length cm) k h c (pre ++ [((i : Int), true)]) (w4.setCell ⟨h + 2, 0, none⟩ (.slice Av (i + 1) cv))) := by
        refine ⟨(hK4.trans (KeepsOthers.setCell _ _ _)).from _, kp_ofC hR2 (fun d' hd' => ((hd'.ext hXa).rowC hgrow hrow).apart (p := ⟨h + 2, 0, none⟩) ha2.nb ha2.nl ha2.nr hgw _) hsz5 (hbox _ (by omega) (fun e => (hT1 _ e.symm).2.2 rfl) (by omega)) (hbox _ (by omega) (fun e => (hT1 _ e.symm).2.1 rfl) (by omega)), _, _, _, _, _, R5, hA1, V5, ?_, ?_, ?_, Nat.le_trans hzW hsz5, E2, ?_⟩
        · rw [hlen', encL_push]
          exact ownsRow_far (p := ⟨h + 2, 0, none⟩) hown' (fun q hq e => blk_ne_row V4.t hown' (by decide) (by rw [hq, e])) (.slice Av (i + 1) cv)
        · intro g hg
          rcases hat with e | e
          · rw [e] at hg; exact hT1 g hg
          · rw [e] at hg
            simp at hg
            subst hg
            exact ⟨⟨by simp at hX5s ⊢; omega, fun e => by have := hl1 _ e; omega, fun e => by have := hr1 _ e; omega⟩, by simp; omega, by simp; omega⟩
        · rw [hlen']; exact HPRE.out.1
        · rw [hlen', HPRE.out.2, ← hMp]; simp
      have g0 := V4.t.cell 0
      have gf := V4.t.frozen 0
      simp only [List.getElem?_toArray, List.getElem?_cons_zero] at g0
      clear hown' hgrow hoA hoT hVa V5 R4 R5 hK4 hat hbox hrow HPRE E1 E2 hEl hMp
      go_wp2
      exact HF.out
    | false =>
      have hFl : FullAt M c N i := by
        rcases hcase with ⟨e, _⟩ | ⟨e, h1⟩
        · simp at e
        · exact h1
      clear hcase hpre hpl hEl hMp
      have c0 := hV1.r.cell 0
      have c1 := hV1.e.cell 0
      have f0 := hV1.r.frozen 0
      have f1' := hV1.e.frozen 0
      simp only [List.getElem?_toArray, List.getElem?_cons_zero] at c0 c1
      have a3 := hA1 (k + 2) (.inl rfl)
      have a4 := hA1 (k + 3) (.inr (.inl rfl))
      have hgw3 : w.heap.size ≤ k + 2 := by omega
      have hgw4 : w.heap.size ≤ k + 3 := by omega
      have V5 := (hV1.setR hkh).setE hkh 5
      obtain ⟨hK1, hR3⟩ := kp_set (bq := h + 1 + 1 + 1 + 1) (bp := h + 1 + 1 + 1) (p := ⟨k + 2, 0, none⟩) hR2 a3 hgw3 (by show h + 1 + 1 + 1 + 1 ≠ k + 2; omega) (by show h + 1 + 1 + 1 ≠ k + 2; omega) (.slice none 0 0)
      obtain ⟨hK2, hR4'⟩ := kp_set (bq := h + 1 + 1 + 1 + 1) (bp := h + 1 + 1 + 1) (p := ⟨k + 3, 0, none⟩) hR3 a4 hgw4 (by show h + 1 + 1 + 1 + 1 ≠ k + 3; omega) (by show h + 1 + 1 + 1 ≠ k + 3; omega) (.int .i64 5)
      have hEX := hR4'.ext0
      gi_wp2
      exact ⟨((KeepsOthers.setCell _ _ _).trans (KeepsOthers.setCell _ _ _)).from _, hK1.trans hK2, rfl, ⟨pre, (n, false), rfl, rfl⟩, ⟨_, V5⟩, hEX⟩
  case done =>
    rintro D xs W' hD ⟨i, l2, r2, p, hR2, hcase⟩ ⟨d, l1, r1, tv, rs, hR1, hA1, hV1, hoT, hT1, hpre, hzW, hEl, hMp⟩ hK
    rcases hcase with ⟨e, hEnd⟩ | ⟨e, _⟩
    · obtain ⟨hxl, _⟩ := rndC_last hpre e
      have HEND := Lib.hid hEnd
      clear hEnd
      rw [hxl] at hoT hMp
      have hrl : rs.length = i + 1 := by have := congrArg List.length hMp; rw [List.length_map, firstC_length] at this; exact this
      obtain ⟨At, ct, rfl, _, _, _⟩ := (ownsRow_row hoT).form
      have c0 := hV1.t.cell 0
      have r0 := hV1.r.cell 0
      have e0 := hV1.e.cell 0
      have rf := hV1.r.frozen 0
      have ef := hV1.e.frozen 0
      simp only [List.getElem?_toArray, List.getElem?_cons_zero] at c0 r0 e0
      have hEX := hR2.ext0
      have hT3 : ∀ g, (Value.slice At (i + 1) ct).ownBlock = some g → g ≠ k + 2 ∧ g ≠ k + 3 := fun g hg => ⟨fun e => (hV1.row hoT g hg) (.inl e), fun e => (hV1.row hoT g hg) (.inr (.inl e))⟩
      have o5 := ownsRow_far (p := ⟨k + 3, 0, none⟩) (ownsRow_far (p := ⟨k + 2, 0, none⟩) hoT (fun g hg => (hT3 g hg).1) (.slice At (i + 1) ct)) (fun g hg => (hT3 g hg).2) (.int .i64 0)
      have E5 := (hEX.setCell (p := ⟨k + 2, 0, none⟩) (by show w.heap.size ≤ k + 2; omega) (.slice At (i + 1) ct)).setCell (p := ⟨k + 3, 0, none⟩) (by show w.heap.size ≤ k + 3; omega) (.int .i64 0)
      have B3 := (hV1.r.set_ 0 (.slice At (i + 1) ct)).far (p := ⟨k + 3, 0, none⟩) (by show k + 2 ≠ k + 3; omega) (.int .i64 0)
      have Be := hV1.e.far (p := ⟨k + 2, 0, none⟩) (by show k + 3 ≠ k + 2; omega) (.slice At (i + 1) ct)
      have B4 := Be.set_ 0 (.int .i64 0)
      have EL := (hEl.far hV1.r (.inl (by decide)) (.slice At (i + 1) ct)).far Be (.inr (by omega)) (.int .i64 0)
      have K7 := (KeepsOthers.setCell (W'.setCell ⟨k + 2, 0, none⟩ (.slice At (i + 1) ct)) ⟨k + 3, 0, none⟩ (.int .i64 0)).same D _ ((KeepsOthers.setCell W' ⟨k + 2, 0, none⟩ (.slice At (i + 1) ct)).same D _ hK rfl) rfl
      have HAll := Lib.hid (And.intro o5 (And.intro E5 (And.intro B3 (And.intro B4 (And.intro K7 (And.intro EL (And.intro hrl hMp)))))))
      clear o5 E5 B3 B4 Be EL K7 hT3 hoT hrl hMp hEl
      gi_wp2
      obtain ⟨o5, E5, B3, B4, K7, EL, hrl, hMp⟩ := HAll.out
      refine ⟨by simp, .inl ⟨_, _, rfl, run_takeDeferred K7, ?_⟩⟩
      have hgr := grownBy_putObj' ((W'.setCell ⟨k + 2, 0, none⟩ (.slice At (i + 1) ct)).setCell ⟨k + 3, 0, none⟩ (.int .i64 0)) D (.deferred none)
      have e3 := (B3.kept hgr (fun e => by injection e with e; omega)).cell 0
      have e4 := (B4.kept hgr (fun e => by injection e with e; omega)).cell 0
      have o6 := own_same o5 (fun g hgl => hgr.block g (o5.lt g hgl).2 (fun e => by injection e with e; subst e; exact own_not_cells o5 hgl ⟨_, K7, rfl⟩))
      have E6 := E5.grown hgr (fun r e => by cases e; omega)
      have hEl6 : ∀ r ∈ rs, OwnInts w.heap.size _ r.lv r.c.l ∧ OwnInts w.heap.size _ r.rv r.c.r := fun r hr => by
        obtain ⟨a1, a2, _, _⟩ := EL r hr
        exact ⟨ownsRow_base (own_same a1 (fun g hgl => hgr.block g (a1.lt g hgl).2 (fun e => by injection e with e; subst e; exact own_not_cells a1 hgl ⟨_, K7, rfl⟩))) (by omega), ownsRow_base (own_same a2 (fun g hgl => hgr.block g (a2.lt g hgl).2 (fun e => by injection e with e; subst e; exact own_not_cells a2 hgl ⟨_, K7, rfl⟩))) (by omega)⟩
      refine ⟨.tuple #[.slice At (i + 1) ct, .int .i64 0], by simp [results, Tryz.f46, go_sem, e3, e4], .inl ⟨i, rs, _, HEND.out, rfl, ?_, hEl6, hMp⟩, E6⟩
      rw [hrl]
      exact ownsRow_base o6 (by omega)
    · have := (rndC_last hpre e).2
      cases this
  case stop =>
    rintro D cd pre W' hD ⟨i, l2, r2, p, hR2, hcase⟩ ⟨rfl, ⟨p', x, hpx, hx2⟩, ⟨tv, hV1⟩, hE⟩ hK
    rcases hcase with ⟨rfl, _⟩ | ⟨rfl, hFull⟩
    · have := List.append_inj_right' hpx rfl
      simp at this
      rw [← this] at hx2
      simp at hx2
    · have r0 := hV1.r.cell 0
      have e0 := hV1.e.cell 0
      simp only [List.getElem?_toArray, List.getElem?_cons_zero] at r0 e0
      have HFL := Lib.hid hFull
      clear hFull
      gi_wp2
      refine ⟨by simp, .inl ⟨_, _, rfl, run_takeDeferred hK, ?_⟩⟩
      have hgr := grownBy_putObj' W' D (.deferred none)
      have e3 := (hV1.r.kept hgr (fun e => by injection e with e; omega)).cell 0
      have e4 := (hV1.e.kept hgr (fun e => by injection e with e; omega)).cell 0
      refine ⟨.tuple #[.slice none 0 0, .int .i64 5], by simp [results, Tryz.f46, go_sem, e3, e4], .inr ⟨⟨i, HFL.out⟩, rfl⟩, hE.grown hgr (fun r e => by cases e; omega)⟩
end Go.Proofs.YtapjofbjedpmgaaGreat
end
section
set_option linter.unusedSimpArgs false
set_option linter.unusedVariables false
namespace Go.Proofs.YtapjofbjedpmgaaGreat
open Go Go.RowKit Go.Proofs
set_option maxHeartbeats 400000
set_option maxRecDepth 20000 in
set_option maxHeartbeats 4000000 in
theorem TraceMachine_c (w : World) (M : MachD) (c : ConfD) (mv lv rv : Value) (N : Nat) (hN : N ≤ 60) (hm : machOk M = true) (hc : confB M c = true) (hr : Rules w mv M.rules) (hl : Ints w lv c.l) (hq : Ints w rv c.r) (f1 : Flat lv) (f2 : Flat rv) :
    Calls Tryz.prog 15 #[.agg #[.int .i64 M.sy, .int .i64 M.st, mv], .agg #[.int .i64 c.q, lv, rv], .int .i64 (N : Int)] w (TrcOut w M c N) := by
  obtain ⟨Am, cm, rfl, _, _⟩ := id hr.form
  obtain ⟨Al, cl, rfl, _, _⟩ := id hl.form
  obtain ⟨Ar, cr, rfl, _, _⟩ := id hq.form
  obtain ⟨g, hg⟩ : ∃ g, w.heap.size = g := ⟨_, rfl⟩
  obtain ⟨W, hW⟩ : ∃ W, W = (w.alloc (.cells #[.int .i64 M.sy, .int .i64 M.st, .slice Am M.rules.length cm] 26)).alloc (.cells #[.int .i64 c.q, .slice Al c.l.length cl, .slice Ar c.r.length cr] 29) := ⟨_, rfl⟩
  have hX : Ext w W := by rw [hW]; exact (Ext.alloc _ _).trans (Ext.alloc _ _)
  have bM : Blk W g 26 #[.int .i64 M.sy, .int .i64 M.st, .slice Am M.rules.length cm] := by rw [hW]; exact (Blk.new _ _ _ _ hg).alloc _
  have bC : Blk W (g + 1) 29 #[.int .i64 c.q, .slice Al c.l.length cl, .slice Ar c.r.length cr] := by rw [hW]; exact Blk.new _ _ _ _ (by simp [hg])
  have VC := ValidConfig_c (.agg #[.int .i64 M.sy, .int .i64 M.st, .slice Am M.rules.length cm]) (.agg #[.int .i64 c.q, .slice Al c.l.length cl, .slice Ar c.r.length cr]) M c W ⟨_, rfl, hr.ext hX⟩ ⟨_, _, rfl, hl.ext hX, hq.ext hX⟩
  rw [hm, hc] at VC
  have TR := fun V (h : Ext w V) => traceOf_c V M c (.slice Am M.rules.length cm) (.slice Al c.l.length cl) (.slice Ar c.r.length cr) N (by omega) hm hc (hr.ext h) (hl.ext h) (hq.ext h) f1 f2
  have hin : inB (N : Int) 0 60 = true := inB_true ⟨by omega, by omega⟩
  have m0 := bM.cell 0
  have m1 := bM.cell 1
  have m2 := bM.cell 2
  have q0 := bC.cell 0
  have q1 := bC.cell 1
  have q2 := bC.cell 2
  simp only [List.getElem?_toArray, List.getElem?_cons_zero, List.getElem?_cons_succ] at m0 m1 m2 q0 q1 q2
  obtain ⟨Ni, hNi⟩ : ∃ z : Int, (N : Int) = z := ⟨_, rfl⟩
  rw [hNi] at hin TR ⊢
  clear hNi bM bC hr hl hq hm hc f1 f2
  go_enter Tryz.func15, Tryz.ntmps15
  go_upto_region 1 with fail
  try rw [← hW]
  try rw [hg]
  clear hW hg
  go_wp2_with fail
  refine VC.mono ?_
  rintro e w1 ⟨rfl, hx1⟩
  clear VC
  replace m0 := hx1.cell m0
  replace m1 := hx1.cell m1
  replace m2 := hx1.cell m2
  replace q0 := hx1.cell q0
  replace q1 := hx1.cell q1
  replace q2 := hx1.cell q2
  go_wp2_with fail
  refine (within_c _ _ _ w1).mono ?_
  rintro e w' ⟨rfl, rfl⟩
  rw [hin]
  have TR := TR w1 (hX.trans hx1)
  have HX := Lib.hid (hX.trans hx1)
  clear hx1 hX hin
  go_wp2_with fail
  refine TR.mono ?_
  rintro e w2 ⟨⟨i, rs, tv, hE, rfl, oT, hel, hM⟩ | ⟨hF, rfl⟩, hx2⟩
  · obtain ⟨At, ct, rfl, _⟩ := (ownsRow_row oT).form
    have HR : Hid (TrcOut w M c N (.returned (.tuple #[.slice At rs.length ct, .int .i64 0])) w2) := Lib.hid ⟨.inl ⟨i, rs, _, hE, rfl, ownsRow_base oT HX.out.size, fun r hr => ⟨ownsRow_base (hel r hr).1 HX.out.size, ownsRow_base (hel r hr).2 HX.out.size⟩, hM⟩, HX.out.trans hx2⟩
    clear TR oT hel hM hE hx2 m0 m1 m2 q0 q1 q2
    generalize rs.length = ln at *
    go_wp2
    refine bodyPost_ret (v := .tuple #[.slice At ln ct, .int .i64 0]) (by simp [results, Tryz.results15, go_sem]) rfl ?_
    exact HR.out
  · have HR : Hid (TrcOut w M c N (.returned (.tuple #[.slice none 0 0, .int .i64 5])) w2) := Lib.hid ⟨.inr ⟨hF, rfl⟩, HX.out.trans hx2⟩
    clear TR hF hx2 m0 m1 m2 q0 q1 q2
    go_wp2
    refine bodyPost_ret (v := .tuple #[.slice none 0 0, .int .i64 5]) (by simp [results, Tryz.results15, go_sem]) rfl ?_
    exact HR.out
end Go.Proofs.YtapjofbjedpmgaaGreat
end
section
set_option linter.unusedSimpArgs false
set_option linter.unusedVariables false
namespace Go.Proofs.YtapjofbjedpmgaaGreat
open Go Go.RowKit Go.Proofs
set_option maxHeartbeats 400000
theorem inT_mono {L M : List (List Int)} (h : ∀ x ∈ L, x ∈ M) {x : List Int} (hx : inT L x = true) : inT M x = true := by
  obtain ⟨y, hy, e⟩ := anyT_iff.1 hx
  exact anyT_iff.2 ⟨y, h y hy, e⟩
theorem cov_super {s S : SetsD} {c : ConfD} (hn : S.n = s.n) (h1 : ∀ x ∈ s.l, x ∈ S.l) (h2 : ∀ x ∈ s.r, x ∈ S.r) (h3 : ∀ x ∈ s.c, x ∈ S.c) (h : covX s c = true) : covX S c = true := by
  unfold covX at h ⊢
  rw [Bool.and_eq_true, Bool.and_eq_true, List.all_eq_true, List.all_eq_true] at h ⊢
  rw [hn]
  exact ⟨⟨inT_mono h3 h.1.1, fun x hx => inT_mono h1 (h.1.2 x hx)⟩, fun x hx => inT_mono h2 (h.2 x hx)⟩
theorem cov_all {m : MachD} {s : SetsD} {p : ProofD} (hm : machOk m = true) (h : FndP m s p) (i : Nat) (hi : i ≤ 190) :
    covX s (cfgI m blankC i) = true ∧ confB m (cfgI m blankC i) = true ∧ ¬ lookI m (cfgI m blankC i) = noR := by
  induction i with
  | zero =>
    have h1 : covX s blankC = true := cov_blank h.cl h.so
    have h2 := conf_blank hm
    exact ⟨h1, h2, (cov_next hm h h2 h1).1⟩
  | succ i ih =>
    obtain ⟨h1, h2, h3⟩ := ih (by omega)
    obtain ⟨_, k2, k3⟩ := cov_next hm h h2 h1
    have e : cfgI m blankC (i + 1) = stepI (lookI m (cfgI m blankC i)) (cfgI m blankC i) := rfl
    have hf : fitI (stepI (lookI m (cfgI m blankC i)) (cfgI m blankC i)) = true := by
      rw [← e]
      obtain ⟨a1, a2⟩ := len_cfg m blankC (i + 1)
      have e1 : blankC.l.length = 0 := rfl
      have e2 : blankC.r.length = 0 := rfl
      simp only [fitI, Bool.and_eq_true, decide_eq_true_eq]
      omega
    rw [e]
    exact ⟨k2, k3 hf, (cov_next hm h (k3 hf) k2).1⟩
theorem not_full {m : MachD} {N i : Nat} (hN : N ≤ 190) : ¬ FullAt m blankC N i := fun h => by
  have h1 := h.full
  have h2 := h.le
  obtain ⟨a1, a2⟩ := len_cfg m blankC i
  have e1 : blankC.l.length = 0 := rfl
  have e2 : blankC.r.length = 0 := rfl
  have : fitI (cfgI m blankC i) = true := by
    simp only [fitI, Bool.and_eq_true, decide_eq_true_eq]
    omega
  rw [this] at h1
  cases h1
theorem end_all {m : MachD} {s : SetsD} {p : ProofD} (hm : machOk m = true) (h : FndP m s p) {N i : Nat} (hN : N ≤ 190) (he : EndAt m blankC N i) : i = N := by
  have := he.le
  rcases he.stop with e | e
  · exact e
  · exact absurd e (cov_all hm h i (by omega)).2.2
theorem FndP.setK {m : MachD} {n : Nat} {L R C : List (List Int)} {p : ProofD} (h : FndP m ⟨n, L, R, C⟩ p) (hl : L.length ≤ 300 ∧ R.length ≤ 300 ∧ C.length ≤ 300) : SetK ⟨n, L, R, C⟩ p :=
  ⟨h.ok, h.sb, h.n4, h.sp, h.so, h.gl, h.gr, h.gc, ⟨by simp only; omega, by simp only; omega, by simp only; omega⟩, ⟨List.length_pos_of_mem h.cl.zl, List.length_pos_of_mem h.cl.zr, List.length_pos_of_mem h.cl.zc⟩⟩
theorem SetsIn.wide {a b a' b' : Int} {s : SetsD} (h : SetsIn a b s) (h1 : a ≤ a') (h2 : b ≤ b') : SetsIn a' b' s :=
  ⟨fun x hx z hz => by have := h.l x hx z hz; omega, fun x hx z hz => by have := h.r x hx z hz; omega, fun x hx => ⟨by have := (h.c x hx).1; omega, fun z hz => by have := (h.c x hx).2 z hz; omega⟩⟩
/-- The merged parts are good, and greater. -/
theorem merged_good {n : Nat} {L R C L2 R2 C2 : List (List Int)} {S : SetsD} {p q : ProofD} (kp : SetK ⟨n, L, R, C⟩ p) (kq : SetK ⟨n, L2, R2, C2⟩ q) (ip : SetsIn 6 1000 ⟨n, L, R, C⟩) (iq : SetsIn 6 1000 ⟨n, L2, R2, C2⟩) (hn : S.n = n) (hM : MrgS L R C L2 R2 C2 S) (hok : prfOk (proofX S) = true) :
    SetsOk S ∧ setsB (proofX S) = true ∧ 4 ≤ (proofX S).ns.length ∧ setsP (proofX S) = S ∧ GoodL S.n S.l ∧ GoodL S.n S.r ∧ GoodL (2 * S.n + 2) S.c ∧ (S.l.length ≤ 1000 ∧ S.r.length ≤ 1000 ∧ S.c.length ≤ 1000) := by
  obtain ⟨m1, m2, m3⟩ := hM
  subst hn
  have j1 : ∀ x, x ∈ S.l → x ∈ L2 ∨ x ∈ L := fun x hx => List.mem_append.1 ((m1.mem x).1 hx)
  have j2 : ∀ x, x ∈ S.r → x ∈ R2 ∨ x ∈ R := fun x hx => List.mem_append.1 ((m2.mem x).1 hx)
  have j3 : ∀ x, x ∈ S.c → x ∈ C2 ∨ x ∈ C := fun x hx => List.mem_append.1 ((m3.mem x).1 hx)
  have so : SetsOk S := ⟨kp.so.n1, kp.so.n4, fun x hx => (j1 x hx).elim (kq.gl.len x) (kp.gl.len x), fun x hx => (j2 x hx).elim (kq.gr.len x) (kp.gr.len x), fun x hx => (j3 x hx).elim (kq.gc.len x) (kp.gc.len x)⟩
  have si : SetsIn 6 1000 S := ⟨fun x hx => (j1 x hx).elim (iq.l x) (ip.l x), fun x hx => (j2 x hx).elim (iq.r x) (ip.r x), fun x hx => (j3 x hx).elim (iq.c x) (ip.c x)⟩
  have q1 := nodup_len m1.nodup (fun x hx => (m1.mem x).1 hx)
  have q2 := nodup_len m2.nodup (fun x hx => (m2.mem x).1 hx)
  have q3 := nodup_len m3.nodup (fun x hx => (m3.mem x).1 hx)
  have h1 := kp.len
  have h2 := kq.len
  have h0 := kp.pos.2.2
  have hc : 1 ≤ S.c.length := List.length_pos_of_mem ((m3.mem _).2 (List.mem_append_right _ (List.getElem_mem h0)))
  simp only [List.length_append] at h1 h2 q1 q2 q3
  refine ⟨so, setsB_proofX so si (by omega) (by omega) m1.riseB m2.riseB m3.riseB, ?_, setsP_proofX so, ?_, ?_, ?_, by omega, by omega, by omega⟩
  · simp only [proofX, List.length_cons, List.length_map]
    omega
  · exact ⟨so.l, fun x hx => (j1 x hx).elim (kq.gl.small x) (kp.gl.small x)⟩
  · exact ⟨so.r, fun x hx => (j2 x hx).elim (kq.gr.small x) (kp.gr.small x)⟩
  · exact ⟨so.c, fun x hx => (j3 x hx).elim (kq.gc.small x) (kp.gc.small x)⟩
def at2 (bs : List Int) : Nat := ((bs.getD 0 0) % 2).toNat
theorem r8At2_c (v : Value) (bs : List Int) (w : World) (h : Bytes w v bs) :
    Calls Tryz.prog 14 #[v, .int .i64 0, .int .i64 2] w fun e w' => e = .returned (.int .i64 (at2 bs : Int)) ∧ w = w' := by
  obtain ⟨A, c, rfl, h1, h2, _⟩ := h.1.form
  by_cases hlt : 0 < bs.length
  · obtain ⟨b', off, rfl, hcc⟩ := Row.at h.1 hlt
    have d0 := hcc 0 (by simpa [bvs] using hlt)
    rw [bvs_get bs 0 hlt, Nat.add_zero] at d0
    have hz := h.2 bs[0] (List.getElem_mem hlt)
    have hz2 : bs.getD 0 0 = bs[0] := by rw [List.getD_eq_getElem?_getD, List.getElem?_eq_getElem hlt]; rfl
    have ha : (at2 bs : Int) = bs[0] % 2 := by unfold at2; rw [hz2]; omega
    generalize bs[0] = z at *
    have hr := fun W => rem_run (P := Tryz.prog) 2 z 2 hz.1 (by omega) W
    have hd : ¬ bs = [] := by intro e; rw [e] at hlt; simp at hlt
    obtain ⟨y, hy⟩ : ∃ y : Int, (at2 bs : Int) = y := ⟨_, rfl⟩
    rw [hy] at ha ⊢
    have HA := Lib.hid ha
    clear hcc ha hy hz2
    go_enter Tryz.func14, Tryz.ntmps14
    go_wp2
    go_ret
    exact ⟨by rw [HA.out]; rfl, rfl⟩
  · have hd : bs = [] := List.length_eq_zero_iff.1 (by omega)
    subst hd
    go_enter Tryz.func14, Tryz.ntmps14
    go_wp2
    go_ret
    exact ⟨rfl, rfl⟩
end Go.Proofs.YtapjofbjedpmgaaGreat
end
