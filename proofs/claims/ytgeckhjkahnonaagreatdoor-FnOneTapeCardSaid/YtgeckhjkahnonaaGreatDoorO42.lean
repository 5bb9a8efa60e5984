/- Contract of the program's texts of a run, with the closure of OneTapeTexts. The machine is valid and the configuration is one of its.
Contract: the program's beginning of the run of the machine with one tape for several.
Contracts of the reference's step of a machine that is a part of a maker. -/
import Derived.Test.YtgeckhjkahnonaaGreatDoorO41
import Derived.Test.YtgeckhjkahnonaaGreatDoorO30
import Derived.Test.YtgeckhjkahnonaaGreatDoorO29
import Derived.Test.YtgeckhjkahnonaaGreatDoorO12
import Derived.Test.YtgeckhjkahnonaaGreatDoorO24
import Derived.Test.YtgeckhjkahnonaaGreatDoorO11
import Derived.Maps.AppendAt
import Derived.Deep.CutBlock
section
set_option linter.unusedSimpArgs false
set_option linter.unusedVariables false
namespace Go.Proofs.YtgeckhjkahnonaaGreatDoor
open Go Go.RowKit Go.Proofs Go.Shelf
attribute [local go_sem] Oper.semAt_some
set_option maxHeartbeats 400000
theorem strInfoO : (Tryz.prog.info? 9).map (fun i => (i.zero, i.size, i.bytes)) = some (some (.string ⟨#[]⟩), 1, 16) := by kernel_rfl
/-- The closure as a value. -/
abbrev fnO (bv bp : Nat) : Value := .func (.func 23) #[] #[.pointer (some ⟨bv, 0, none⟩), .pointer (some ⟨bp, 0, none⟩)]
/-- What the closure must do. -/
def TxtFnO (w : World) (bv bp : Nat) (M : MachD) (c : ConfD) (f : ConfD → List UInt8) : Prop :=
  ∀ (i : Nat) (v1 v2 : Value) (W : World), RunsTo M c i → Ext w W → Ints W v1 (cfgI M c i).l → Ints W v2 (cfgI M c i).r → Flat v1 → Flat v2 →
    Calls Tryz.prog 23 #[.agg #[.int .i64 (cfgI M c i).q, v1, v2], .pointer (some ⟨bv, 0, none⟩), .pointer (some ⟨bp, 0, none⟩)] W fun e w' => e = .returned (.string (bsS (f (cfgI M c i)))) ∧ Ext W w'
set_option maxRecDepth 100000 in
set_option maxHeartbeats 4000000 in
theorem runTextsO_c (w : World) (M : MachD) (c : ConfD) (mv lv rv : Value) (N bv bp : Nat) (f : ConfD → List UInt8) (hN : N ≤ 100000) (hm : machOk M = true) (hc : confB M c = true) (hr : Rules w mv M.rules) (hl : Ints w lv c.l) (hq : Ints w rv c.r) (f1 : Flat lv) (f2 : Flat rv) (hF : TxtFnO w bv bp M c f) :
    Calls Tryz.prog 22 #[.agg #[.int .i64 M.sy, .int .i64 M.st, mv], .agg #[.int .i64 c.q, lv, rv], .int .i64 N, fnO bv bp] w (TxtOut w M c N f) := by
  obtain ⟨Am, cm, rfl, _, _⟩ := hr.form
  obtain ⟨Al, cl, rfl, _, _⟩ := hl.form
  obtain ⟨Ar, cr, rfl, _, _⟩ := hq.form
  obtain ⟨hg, hfit, ht⟩ := conf_good hc
  have hfi : fitI c = true := by simp [fitI, hfit]
  obtain ⟨k, hk⟩ : ∃ k, w.heap.size = k := ⟨_, rfl⟩
  obtain ⟨W, hW⟩ : ∃ W, ((((w.alloc (.cells #[.int .i64 M.sy, .int .i64 M.st, .slice Am M.rules.length cm] 66)).alloc (.cells #[.int .i64 c.q, .slice Al c.l.length cl, .slice Ar c.r.length cr] 60)).alloc (.cells #[fnO bv bp] 76)).alloc (.cells #[.slice none 0 0] 30)).alloc (.cells #[.int .i64 0] 2) = W := ⟨_, rfl⟩
  have hX : Ext w W := by rw [← hW]; exact ((((Ext.alloc _ _).trans (Ext.alloc _ _)).trans (Ext.alloc _ _)).trans (Ext.alloc _ _)).trans (Ext.alloc _ _)
  have bM : Blk W k 66 #[.int .i64 M.sy, .int .i64 M.st, .slice Am M.rules.length cm] := by rw [← hW]; exact ((((Blk.new _ _ _ _ hk).alloc _).alloc _).alloc _).alloc _
  have bC : Blk W (k + 1) 60 #[.int .i64 c.q, .slice Al c.l.length cl, .slice Ar c.r.length cr] := by rw [← hW]; exact (((Blk.new _ _ _ _ (by simp [hk])).alloc _).alloc _).alloc _
  have bF : Blk W (k + 2) 76 #[fnO bv bp] := by rw [← hW]; exact ((Blk.new _ _ _ _ (by simp [hk])).alloc _).alloc _
  have bR : Blk W (k + 3) 30 #[.slice none 0 0] := by rw [← hW]; exact (Blk.new _ _ _ _ (by simp [hk])).alloc _
  have bE : Blk W (k + 4) 2 #[.int .i64 0] := by rw [← hW]; exact Blk.new _ _ _ _ (by simp [hk])
  have hz : W.heap.size = k + 5 := by rw [← hW]; simp [hk]
  have m0 := bM.cell 0
  have m1 := bM.cell 1
  have m2 := bM.cell 2
  have c0 := bC.cell 0
  have c1 := bC.cell 1
  have c2 := bC.cell 2
  simp only [List.getElem?_toArray, List.getElem?_cons_zero, List.getElem?_cons_succ] at m0 m1 m2 c0 c1 c2
  have hRO := runnerOf_c W M c _ _ _ (hr.ext hX) (hl.ext hX) (hq.ext hX) f1 f2 (by omega) (by omega)
  refine (callsIn_wide (n := 8)).1 ?_
  refine callsIn_of_wp_marks Tryz.func22 rfl trivial ?_ rfl
  simp only [Tryz.ntmps22, List.size_toArray, List.length_cons, List.length_nil, Nat.reduceAdd, Nat.reduceSub, Array.replicate_succ, Array.replicate_zero, List.push_toArray, List.append_toArray, List.nil_append, List.cons_append]
  gi_wp2_with fail
  try rw [hW]
  try rw [hk]
  clear hW
  refine ⟨trivial, (callsIn_wide.2 hRO).mono ?_⟩
  rintro e w1 ⟨b, lv1, rv1, rfl, hR1⟩
  have hRw := hR1.lower hX hr
  have hX1 : Ext W w1 := hR1.ext0
  have hb1 := hR1.low
  rw [hz] at hb1
  have hapk : ∀ i, i < k + 5 → Apt b i lv1 rv1 := fun i hi => ⟨by omega, fun e => by have := (hR1.l.lt i e).1; omega, fun e => by have := (hR1.r.lt i e).1; omega⟩
  have haph : ∀ i, w1.heap.size ≤ i → Apt b i lv1 rv1 := fun i hi => ⟨by have := hR1.blk.lt; omega, fun e => by have := (hR1.l.lt i e).2; omega, fun e => by have := (hR1.r.lt i e).2; omega⟩
  obtain ⟨h, hh⟩ : ∃ h, w1.heap.size = h := ⟨_, rfl⟩
  rw [hh] at haph
  have hkh : k + 5 ≤ h := by rw [← hh, ← hz]; exact hX1.size
  gi_wp2_with (refine ⟨trivial, ?_⟩; gi_at_call 49; refine (callsIn_wide.2 (steps_c _ (N : Int) _ ⟨_, rfl⟩)).mono ?_; rintro e w' ⟨rfl, rfl⟩)
  obtain ⟨W4, hW4⟩ : ∃ W4, W4 = ((((w1.alloc (.cells #[] 9)).alloc (.cells #[.pointer (some ⟨b, 0, none⟩)] 115)).alloc (.cells #[.slice (some ⟨h, 0, none⟩) 0 0] 30)).alloc (.cells #[.pointer (some ⟨b, 0, none⟩)] 115)).alloc (.cells #[.int .i64 (N : Int)] 2) := ⟨_, rfl⟩
  have hX4 : Ext w1 W4 := by rw [hW4]; exact ((((Ext.alloc _ _).trans (Ext.alloc _ _)).trans (Ext.alloc _ _)).trans (Ext.alloc _ _)).trans (Ext.alloc _ _)
  have hR4 := hRw.ext hX4
  have hB : BoxR W4 b (h + 1 + 1 + 1 + 1) (h + 1 + 1 + 1) N lv1 rv1 := by
    have a5 := haph (h + 1 + 1 + 1 + 1) (by omega)
    have a4 := haph (h + 1 + 1 + 1) (by omega)
    refine ⟨?_, ?_, a5.nl, a5.nr, a4.nl, a4.nr, a5.nb, a4.nb⟩
    · rw [hW4]; exact Blk.new _ _ _ _ (by simp [hh])
    · rw [hW4]; exact (Blk.new _ _ _ _ (by simp [hh])).alloc _
  have hV4 : VarT W4 k h b (fnO bv bp) 0 (.slice (some ⟨h, 0, none⟩) 0 0) := by
    refine ⟨(bF.ext hX1).ext hX4, (bR.ext hX1).ext hX4, (bE.ext hX1).ext hX4, ?_, ?_⟩
    · rw [hW4]; exact (((Blk.new _ _ _ _ (by simp [hh])).alloc _).alloc _).alloc _
    · rw [hW4]; exact ((Blk.new _ _ _ _ (by simp [hh])).alloc _).alloc _
  have ho4 : W4.ownsRow h 9 1 (.slice (some ⟨h, 0, none⟩) 0 0) 0 (svB (firstT M c f 0)) := by
    rw [hW4, ← hh]
    exact ownsRow_ext (World.ownsRow_made (base := w1.heap.size) (e := 9) (size := 1) w1 #[] 0 (by simp) (by unfold maxLen; omega) (by simp)) ((((Ext.alloc _ _).trans (Ext.alloc _ _)).trans (Ext.alloc _ _)).trans (Ext.alloc _ _))
  have hA4 : AptV b k h lv1 rv1 := fun i hi => by
    rcases hi with e | e | e | e | e
    · exact hapk i (by omega)
    · exact hapk i (by omega)
    · exact hapk i (by omega)
    · exact haph i (by omega)
    · exact haph i (by omega)
  have hT4 : ∀ g, (Value.slice (some ⟨h, 0, none⟩) 0 0).ownBlock = some g → Apt b g lv1 rv1 ∧ g ≠ h + 3 ∧ g ≠ h + 4 := fun g hg => by
    simp [Value.ownBlock] at hg
    subst hg
    exact ⟨haph _ (Nat.le_refl _), by omega, by omega⟩
  rw [← hW4]
  have hsz : W4.heap.size = h + 1 + 1 + 1 + 1 + 1 := by rw [hW4]; simp [hh]
  clear hW4
  have hlow : w.heap.size ≤ W4.heap.size := hR4.ext0.size
  have hwk : w.heap.size = k := hk
  clear hRO m0 m1 m2 c0 c1 c2 bM bC bF bR bE
  have h1 : 1 ≤ 8 := by omega
  refine wpIn_rangeFunc_W rfl h1 (gf := 72) (lb := #[.pointer (some ⟨h + 1 + 1 + 1 + 1, 0, none⟩), .pointer (some ⟨h + 1 + 1 + 1, 0, none⟩)]) rfl trivial (enters_of Tryz.func72 (by kernel_rfl) rfl)
    (steps1_w (8 - 1) (by omega) w W4 b (h + 1 + 1 + 1 + 1) (h + 1 + 1 + 1) M c (.slice Am M.rules.length cm) lv1 rv1 N hN hm hg hfi hR4 hB) (fun h k => KpR.trans h k) (fun W l o o' hl h1 h2 _ => KpR.turn W l o o' (by omega) (by omega) (by omega) h1 h2) (Below.refl _ _) (fun _ => rfl)
    (fun A B h => WrR.keeps h) (IFt w b M (.slice Am M.rules.length cm) k h (fnO bv bp) c f) (IxFt w b k h (fnO bv bp)) (iFt_own hlow) (ixFt_own hlow) iFt_w (stR_own hlow) (sR_own hlow) (spR_own hlow)
    ⟨c, lv1, rv1, _, hR4, hA4, hV4, ho4, hT4, rfl, by omega⟩
    (fun x => { tmps := #[.agg #[.int .i64 M.sy, .int .i64 M.st, .slice Am M.rules.length cm], .agg #[.int .i64 c.q, .slice Al c.l.length cl, .slice Ar c.r.length cr], .int .i64 (N : Int), fnO bv bp, .pointer (some ⟨k, 0, none⟩), .pointer (some ⟨k + 1, 0, none⟩), undef, .pointer (some ⟨k + 1 + 1, 0, none⟩), .pointer (some ⟨k + 1 + 1 + 1, 0, none⟩), .pointer (some ⟨k + 1 + 1 + 1 + 1, 0, none⟩), .pointer (some ⟨h + 1, 0, none⟩), .pointer (some ⟨h + 1 + 1, 0, none⟩), undef, .bool x.2, .agg #[.int .i64 M.sy, .int .i64 M.st, .slice Am M.rules.length cm], .agg #[.int .i64 c.q, .slice Al c.l.length cl, .slice Ar c.r.length cr], .pointer (some ⟨b, 0, none⟩), .slice (some ⟨h, 0, none⟩) 0 0, .pointer (some ⟨b, 0, none⟩), .int .i64 (N : Int), .func (.func 72) #[] #[.pointer (some ⟨h + 1 + 1 + 1 + 1, 0, none⟩), .pointer (some ⟨h + 1 + 1 + 1, 0, none⟩)], .int .i64 x.1, .bool x.2, undef, undef, undef, undef, undef, undef, undef, undef, undef, undef], defers := [] }) ?assign ?body ?done ?stop
  case assign =>
    intro l x W K hK
    gi_wp2
    exact hK
  case body =>
    obtain ⟨i0, hi, hz0, hz1, hz2⟩ := info_parts strInfoO
    rintro l pre ⟨n, room⟩ W' ⟨d, l1, r1, tv, hR1, hA1, hV1, hoT, hT1, hpre, hzW⟩ ⟨i, l2, r2, hR2, hpl, hcase⟩ _
    obtain ⟨rfl, rfl⟩ := hR2.vals hR1
    clear hR1
    have hbl := hR2.blk.lt
    cases room with
    | true =>
      have hc2 : n = (i : Int) ∧ RunsTo M c i ∧ i ≤ N := by
        rcases hcase with ⟨e, h1, h2⟩ | ⟨e, _⟩
        · simp at e; exact ⟨e, h1, h2⟩
        · simp at e
      clear hcase
      obtain ⟨rfl, hRT, hiN⟩ := hc2
      have HRT := Lib.hid hRT
      obtain ⟨hf1, hf2⟩ := fit_both (hRT.fit i (Nat.le_refl _))
      rw [hpl] at hoT hpre
      have b0 := hV1.t.cell 0
      have b1 := hV1.f.cell 0
      have b2 := hV1.p.cell 0
      simp only [List.getElem?_toArray, List.getElem?_cons_zero] at b0 b1 b2
      have b0 := (Ext.drew W').cell b0
      have b1 := (Ext.drew W').cell b1
      have b2 := (Ext.drew W').cell b2
      obtain ⟨At, ct, rfl, hct, hct2, _⟩ := (ownsRow_row hoT).form
      have hCF := config_c w W'.drew b M (cfgI M c i) _ _ _ (hR2.ext (Ext.drew W')) (by omega) (by omega)
      have hXw : Ext w W'.drew := hR2.ext0.trans (Ext.drew W')
      obtain ⟨s, hs⟩ : ∃ s, bsS (f (cfgI M c i)) = s := ⟨_, rfl⟩
      have HS := Lib.hid hs
      have HSV := Lib.hid (firstT_svB M c f i)
      rw [hs] at HSV
      have hFi : ∀ (v1 v2 : Value) (X : World), Ext w X → Ints X v1 (cfgI M c i).l → Ints X v2 (cfgI M c i).r → Flat v1 → Flat v2 →
        Calls Tryz.prog 23 #[.agg #[.int .i64 (cfgI M c i).q, v1, v2], .pointer (some ⟨bv, 0, none⟩), .pointer (some ⟨bp, 0, none⟩)] X fun e w' => e = .returned (.string s) ∧ Ext X w' := fun v1 v2 X hx h1 h2 f1 f2 => by rw [← hs]; exact hF i v1 v2 X HRT.out hx h1 h2 f1 f2
      have HPRE : Hid (pre ++ [((i : Int), true)] = roundsT (i + 1)) := by unfold Hid; rw [roundsT_succ, ← hpre]
      clear hs hpre hRT
      gi_wp2_with fail
      refine wpIn_region_ordT 6 (readsT [0, 1, 2] (.stir 3 (.stir 4 (.stir 5 .done)))) (by kernel_rfl) (by kernel_rfl) (by kernel_rfl) (by rintro ⟨_, _, hh⟩; exact hh) (fun _ _ _ _ _ h => h) ?_
      simp only [readsT]
      iterate 3 (refine wpOrdT_read (v := ?_) (by rfl) (Or.inl ⟨by rfl, fun x hx => ?_⟩) ?_; rotate_left; (· have a1 := hx.cell b0; have a2 := hx.cell b1; have a3 := hx.cell b2; go_simp; try with_reducible rfl); try simp only [Act.put, List.setIfInBounds_toArray, List.set_cons_zero, List.set_cons_succ])
      refine wpOrdT_keep (by rfl) (fun K hK => ?_)
      go_simp
      go_at_call 50
      refine hCF.mono ?_
      rintro e w2 ⟨lv2, rv2, rfl, ol2, or2, _, hx2⟩
      refine hK _ _ hx2 ?_
      clear hK K
      refine wpOrdT_keep (by rfl) (fun K hK => ?_)
      go_simp
      refine (hFi lv2 rv2 w2 (hXw.trans hx2) ol2.ints or2.ints ol2.flat or2.flat).mono ?_
      rintro e w3 ⟨rfl, hx3⟩
      refine hK _ _ (hx2.trans hx3) ?_
      clear hK K
      refine wpOrdT_keep (by rfl) (fun K hK => ?_)
      go_simp
      refine hK _ _ ((hx2.trans hx3).trans (Ext.alloc _ _)) ?_
      clear hK K
      refine wpOrdT_done ?_
      try simp only [List.drop_succ_cons, List.drop_zero]
      have hX3 : Ext W' w3 := ((Ext.drew W').trans hx2).trans hx3
      have hs3 := hX3.size
      clear hCF hFi b0 b1 b2 ol2 or2 hXw
      go_wp2_with (at_builtin; refine wpList_append_own_at _ rfl _ _ 30 rfl h 9 i0 (.string ⟨#[]⟩) 1 16 Tryz.underlying30 hi hz0 hz1 hz2 rfl (by decide) _ _ _ rfl ((ownsRow_ext hoT hX3).alloc _) ⟨w3.heap.size, 0, none⟩ 1 1 [.string s] rfl rfl ?c1 ?c2 ?c3 ?c4 ?c5 ?_)
      case c1 =>
        intro j u hj
        match j, hj with
        | 0, hj => simp at hj; subst hj; simp [Addr.add]
      case c2 => intro u hu; simp at hu; subst hu; rfl
      case c3 => unfold maxLen; omega
      case c4 => omega
      case c5 => simp; omega
      intro v' w4 hown' hgrow _ hat
      obtain ⟨Av, cv, rfl, _, _, _⟩ := (ownsRow_row hown').form
      have hXa : Ext W' (w3.alloc (.cells #[.string s] 9)) := hX3.trans (Ext.alloc _ _)
      have hoA := ownsRow_ext hoT hXa
      have hVa := hV1.ext hXa
      have V4 := hVa.kept hgrow (fun r e => .inr (hVa.row hoA r e))
      have hrow := fun r (e : (Value.slice At i ct).ownBlock = some r) => (⟨by have := (hoA.lt r e).1; omega, (hT1 r e).1⟩ : w.heap.size ≤ r ∧ Apt b r _ _)
      have hgw : w.heap.size ≤ h + 2 := by omega
      have ha2 := hA1 (h + 2) (.inr (.inr (.inr (.inr rfl))))
      have R4 := (hR2.ext hXa).row hgrow hrow
      have R5 := R4.apart (p := ⟨h + 2, 0, none⟩) ha2.nb ha2.nl ha2.nr hgw (.slice Av (i + 1) cv)
      have V5 := V4.setT hkh (.slice Av (i + 1) cv)
      have hlen' : (pre ++ [((i : Int), true)]).length = i + 1 := by rw [List.length_append, hpl]; rfl
      have hbox : ∀ j, j < W'.heap.size → some j ≠ (Value.slice At i ct).ownBlock → j ≠ h + 2 → (w4.setCell ⟨h + 2, 0, none⟩ (.slice Av (i + 1) cv)).heap[j]? = W'.heap[j]? := fun j hj hne hn2 =>
        (Below.heap_setCell _ _ _ _ hn2).trans ((hgrow.block j (Nat.lt_of_lt_of_le hj hXa.size) hne).trans (Below.block hXa j hj))
      have hsz5 : W'.heap.size ≤ (w4.setCell ⟨h + 2, 0, none⟩ (.slice Av (i + 1) cv)).heap.size := by
        have a1 := hXa.size
        have a2 := hgrow.size
        have a3 := (grownBy_setCell w4 ⟨h + 2, 0, none⟩ (.slice Av (i + 1) cv)).size
        omega
      have hK4 : KeepsOthers W' w4 := (show KeepsOthers W' _ from ⟨Ext.size hXa, fun k o hk ho => (Below.block hXa k (Array.getElem?_eq_some_iff.1 hk).1).trans hk⟩).trans (KeepsOthers.of_grownBy hgrow (fun j o hj hl => by
        rcases hoA.2 with ⟨e, _⟩ | ⟨g', cap, cur, e, _, hg', _⟩
        · rw [e] at hj; simp [Value.ownBlock] at hj
        · rw [e] at hj
          simp [Value.ownBlock] at hj
          subst hj
          rw [hg'] at hl
          cases hl
          rfl))
      have hl1 := fun g e => (hR2.l.lt g e).2
      have hr1 := fun g e => (hR2.r.lt g e).2
      have hX5s := hXa.size
      have HF : Hid (KeepsFrom (h + 1 + 1 + 1 + 1 + 1) W' (w4.setCell ⟨h + 2, 0, none⟩ (.slice Av (i + 1) cv)) ∧ KpR w b (h + 1 + 1 + 1 + 1) (h + 1 + 1 + 1) M (.slice Am M.rules.length cm) W' (w4.setCell ⟨h + 2, 0, none⟩ (.slice Av (i + 1) cv)) ∧ IFt w b M (.slice Am M.rules.length cm) k h (fnO bv bp) c f (pre ++ [((i : Int), true)]) (w4.setCell ⟨h + 2, 0, none⟩ (.slice Av (i + 1) cv))) := by
        refine ⟨(hK4.trans (KeepsOthers.setCell _ _ _)).from _, kp_of hR2 (fun d' hd' => ((hd'.ext hXa).row hgrow hrow).apart (p := ⟨h + 2, 0, none⟩) ha2.nb ha2.nl ha2.nr hgw _) hsz5 (hbox _ (by omega) (fun e => (hT1 _ e.symm).2.2 rfl) (by omega)) (hbox _ (by omega) (fun e => (hT1 _ e.symm).2.1 rfl) (by omega)), _, _, _, _, R5, hA1, V5, ?_, ?_, ?_, Nat.le_trans hzW hsz5⟩
        · rw [hlen', HSV.out]
          exact ownsRow_far (p := ⟨h + 2, 0, none⟩) hown' (fun q hq e => blk_ne_row V4.t hown' (by decide) (by rw [hq, e])) (.slice Av (i + 1) cv)
        · intro g hg
          rcases hat with e | e
          · rw [e] at hg; exact hT1 g hg
          · rw [e] at hg
            simp at hg
            subst hg
            exact ⟨⟨by simp at hX5s ⊢; omega, fun e => by have := hl1 _ e; omega, fun e => by have := hr1 _ e; omega⟩, by simp; omega, by simp; omega⟩
        · rw [hlen']; exact HPRE.out
      have g0 := V4.t.cell 0
      have gf := V4.t.frozen 0
      simp only [List.getElem?_toArray, List.getElem?_cons_zero] at g0
      clear hown' hgrow hoA hoT hVa V5 R4 R5 hK4 hat hbox hrow HSV HPRE
      go_wp2
      exact HF.out
    | false =>
      have hFl : FullAt M c N i := by
        rcases hcase with ⟨e, _⟩ | ⟨e, h1⟩
        · simp at e
        · exact h1
      clear hcase hpre hpl
      have c0 := hV1.r.cell 0
      have c1 := hV1.e.cell 0
      have f0 := hV1.r.frozen 0
      have f1' := hV1.e.frozen 0
      simp only [List.getElem?_toArray, List.getElem?_cons_zero] at c0 c1
      have a3 := hA1 (k + 3) (.inr (.inl rfl))
      have a4 := hA1 (k + 4) (.inr (.inr (.inl rfl)))
      have hgw3 : w.heap.size ≤ k + 3 := by omega
      have hgw4 : w.heap.size ≤ k + 4 := by omega
      have V5 := (hV1.setR hkh).setE hkh 5
      obtain ⟨hK1, hR3⟩ := kp_set (bq := h + 1 + 1 + 1 + 1) (bp := h + 1 + 1 + 1) (p := ⟨k + 3, 0, none⟩) hR2 a3 hgw3 (by show h + 1 + 1 + 1 + 1 ≠ k + 3; omega) (by show h + 1 + 1 + 1 ≠ k + 3; omega) (.slice none 0 0)
      obtain ⟨hK2, hR4'⟩ := kp_set (bq := h + 1 + 1 + 1 + 1) (bp := h + 1 + 1 + 1) (p := ⟨k + 4, 0, none⟩) hR3 a4 hgw4 (by show h + 1 + 1 + 1 + 1 ≠ k + 4; omega) (by show h + 1 + 1 + 1 ≠ k + 4; omega) (.int .i64 5)
      have hEX := hR4'.ext0
      gi_wp2
      exact ⟨((KeepsOthers.setCell _ _ _).trans (KeepsOthers.setCell _ _ _)).from _, hK1.trans hK2, rfl, ⟨pre, (n, false), rfl, rfl⟩, ⟨_, V5⟩, hEX⟩
  case done =>
    rintro D xs W' hD ⟨i, l2, r2, p, hR2, hcase⟩ ⟨d, l1, r1, tv, hR1, hA1, hV1, hoT, hT1, hpre, hzW⟩ hK
    rcases hcase with ⟨e, hEnd⟩ | ⟨e, _⟩
    · obtain ⟨hxl, _⟩ := roundsT_last hpre e
      have HEND := Lib.hid hEnd
      clear hEnd
      rw [hxl] at hoT
      obtain ⟨At, ct, rfl, _, _, _⟩ := (ownsRow_row hoT).form
      have c0 := hV1.t.cell 0
      have r0 := hV1.r.cell 0
      have e0 := hV1.e.cell 0
      have rf := hV1.r.frozen 0
      have ef := hV1.e.frozen 0
      simp only [List.getElem?_toArray, List.getElem?_cons_zero] at c0 r0 e0
      have hEX := hR2.ext0
      have hT3 : ∀ g, (Value.slice At (i + 1) ct).ownBlock = some g → g ≠ k + 3 ∧ g ≠ k + 4 := fun g hg => ⟨(hV1.row hoT g hg).2.1, (hV1.row hoT g hg).2.2.1⟩
      have o5 := ownsRow_far (p := ⟨k + 4, 0, none⟩) (ownsRow_far (p := ⟨k + 3, 0, none⟩) hoT (fun g hg => (hT3 g hg).1) (.slice At (i + 1) ct)) (fun g hg => (hT3 g hg).2) (.int .i64 0)
      have E5 := (hEX.setCell (p := ⟨k + 3, 0, none⟩) (by show w.heap.size ≤ k + 3; omega) (.slice At (i + 1) ct)).setCell (p := ⟨k + 4, 0, none⟩) (by show w.heap.size ≤ k + 4; omega) (.int .i64 0)
      have B3 := (hV1.r.set_ 0 (.slice At (i + 1) ct)).far (p := ⟨k + 4, 0, none⟩) (by show k + 3 ≠ k + 4; omega) (.int .i64 0)
      have B4 := (hV1.e.far (p := ⟨k + 3, 0, none⟩) (by show k + 4 ≠ k + 3; omega) (.slice At (i + 1) ct)).set_ 0 (.int .i64 0)
      have K7 := (KeepsOthers.setCell (W'.setCell ⟨k + 3, 0, none⟩ (.slice At (i + 1) ct)) ⟨k + 4, 0, none⟩ (.int .i64 0)).same D _ ((KeepsOthers.setCell W' ⟨k + 3, 0, none⟩ (.slice At (i + 1) ct)).same D _ hK rfl) rfl
      have HAll := Lib.hid (And.intro o5 (And.intro E5 (And.intro B3 (And.intro B4 K7))))
      clear o5 E5 B3 B4 K7 hT3 hoT
      gi_wp2
      obtain ⟨o5, E5, B3, B4, K7⟩ := HAll.out
      refine ⟨by simp, .inl ⟨_, _, rfl, run_takeDeferred K7, ?_⟩⟩
      have hgr := grownBy_putObj' ((W'.setCell ⟨k + 3, 0, none⟩ (.slice At (i + 1) ct)).setCell ⟨k + 4, 0, none⟩ (.int .i64 0)) D (.deferred none)
      have e3 := (B3.kept hgr (fun e => by injection e with e; omega)).cell 0
      have e4 := (B4.kept hgr (fun e => by injection e with e; omega)).cell 0
      have o6 := own_same o5 (fun g hgl => hgr.block g (o5.lt g hgl).2 (fun e => by injection e with e; subst e; exact own_not_cells o5 hgl ⟨_, K7, rfl⟩))
      have E6 := E5.grown hgr (fun r e => by cases e; omega)
      have hln := firstT_length M c f (i + 1)
      refine ⟨.tuple #[.slice At (i + 1) ct, .int .i64 0], by simp [results, Tryz.f22, go_sem, e3, e4], firstT M c f (i + 1), 0, _, rfl, ?_, .inl ⟨i, HEND.out, rfl, rfl⟩, E6⟩
      rw [hln]
      exact ownsRow_base o6 (by omega)
    · have := (roundsT_last hpre e).2
      cases this
  case stop =>
    rintro D cd pre W' hD ⟨i, l2, r2, p, hR2, hcase⟩ ⟨rfl, ⟨p', x, hpx, hx2⟩, ⟨tv, hV1⟩, hE⟩ hK
    rcases hcase with ⟨rfl, _⟩ | ⟨rfl, hFull⟩
    · have := List.append_inj_right' hpx rfl
      simp at this
      rw [← this] at hx2
      simp at hx2
    · have r0 := hV1.r.cell 0
      have e0 := hV1.e.cell 0
      simp only [List.getElem?_toArray, List.getElem?_cons_zero] at r0 e0
      have HFL := Lib.hid hFull
      clear hFull
      gi_wp2
      refine ⟨by simp, .inl ⟨_, _, rfl, run_takeDeferred hK, ?_⟩⟩
      have hgr := grownBy_putObj' W' D (.deferred none)
      have e3 := (hV1.r.kept hgr (fun e => by injection e with e; omega)).cell 0
      have e4 := (hV1.e.kept hgr (fun e => by injection e with e; omega)).cell 0
      refine ⟨.tuple #[.slice none 0 0, .int .i64 5], by simp [results, Tryz.f22, go_sem, e3, e4], [], 5, _, rfl, World.ownsRow_nil .., .inr ⟨⟨i, HFL.out⟩, rfl, rfl⟩, hE.grown hgr (fun r e => by cases e; omega)⟩
end Go.Proofs.YtgeckhjkahnonaaGreatDoor
end
section
set_option linter.unusedSimpArgs false
set_option linter.unusedVariables false
namespace Go.Proofs.YtgeckhjkahnonaaGreatDoor
open Go Go.RowKit Go.Proofs Go.Maps
set_option maxHeartbeats 400000
/-- A configuration and a code. -/
def StaRes (w : World) (r : ConfD × Int) (e : Ending) (w' : World) : Prop :=
  ∃ lv rv, e = .returned (.tuple #[.agg #[.int .i64 r.1.q, lv, rv], .int .i64 r.2]) ∧ OwnInts w.heap.size w' lv r.1.l ∧ OwnInts w.heap.size w' rv r.1.r ∧ Ext w w'
/-- The right side grows. -/
structure GrR (base : Nat) (w : World) (bo : Nat) (xs : List Int) (rv : Value) : Prop where
  blk : Blk w bo 60 #[.int .i64 0, .slice none 0 0, rv]
  r : OwnInts base w rv xs
theorem GrR.ext {base : Nat} {w w' : World} {bo : Nat} {xs : List Int} {rv : Value} (h : GrR base w bo xs rv) (he : Ext w w') : GrR base w' bo xs rv := ⟨h.blk.ext he, OwnInts.ext h.r he⟩
theorem GrR.push {base : Nat} {w w' : World} {bo : Nat} {x : Int} {xs : List Int} {rv v' : Value} (h : GrR base w bo xs rv) (hown : w'.ownsRow base 2 1 v' (xs.length + 1) (ivs xs ++ [.int .i64 x])) (hg : w.grownBy w' rv.ownBlock) :
    GrR base (w'.setCell ⟨bo, 2, none⟩ v') bo (xs ++ [x]) v' := by
  have B5 := Blk.apart h.blk h.r (by decide) hg
  refine ⟨B5.set_ 2 v', ?_⟩
  have := own_kept hown (grownBy_setCell w' ⟨bo, 2, none⟩ v') (blk_ne_row B5 hown (by decide))
  unfold OwnInts
  rw [ivs_append]
  simpa [ivs] using this
theorem GrR.trim {base : Nat} {w : World} {bo : Nat} {xs : List Int} {A : Option Addr} {c : Nat} (h : GrR base w bo xs (.slice A xs.length c)) :
    GrR base (w.setCell ⟨bo, 2, none⟩ (.slice A (trimN xs xs.length) c)) bo (trim xs) (.slice A (trimN xs xs.length) c) := by
  have ho := own_trim h.r
  exact ⟨h.blk.set_ 2 _, own_kept ho (grownBy_setCell w ⟨bo, 2, none⟩ _) (blk_ne_row h.blk ho (by decide))⟩
theorem StaRes.fail {w w1 : World} {k : Int} {b : Nat} (hb : w.heap.size ≤ b) (hX : Ext w w1) (x y z : Value) :
    StaRes w (blankC, k) (.returned (.tuple #[.agg #[.int .i64 0, .slice none 0 0, .slice none 0 0], .int .i64 k])) (((w1.setCell ⟨b, 0, none⟩ x).setCell ⟨b, 1, none⟩ y).setCell ⟨b, 2, none⟩ z) :=
  ⟨_, _, rfl, World.ownsRow_nil .., World.ownsRow_nil .., ((hX.setCell hb _).setCell hb _).setCell hb _⟩
theorem StaRes.done {w w1 : World} {b base : Nat} {cs : Array Value} {xs : List Int} {rv : Value} (hb : w.heap.size ≤ b) (hX : Ext w w1) (hB : Blk w1 b 60 cs) (h : OwnInts base w1 rv xs) (hbb : w.heap.size ≤ base) (x y z : Value) :
    StaRes w (⟨0, [], xs⟩, 0) (.returned (.tuple #[.agg #[.int .i64 0, .slice none 0 0, rv], .int .i64 0])) (((w1.setCell ⟨b, 0, none⟩ x).setCell ⟨b, 1, none⟩ y).setCell ⟨b, 2, none⟩ z) := by
  have f : ∀ k, rv.ownBlock = some k → k ≠ b := fun k hk e => by
    subst e
    exact blk_ne_row hB h (by decide) hk.symm
  exact ⟨_, _, rfl, World.ownsRow_nil .., ownsRow_base (ownsRow_far (ownsRow_far (ownsRow_far h f _) f _) f _) hbb, ((hX.setCell hb _).setCell hb _).setCell hb _⟩
theorem CpM.tapesA {w wr : World} {ts : List TapeD} {v : Value} {cl : List Value} (h : CpM w ts ts.length v cl wr) : Tapes wr v ts := by
  obtain ⟨A, c, rfl, a, b, hr⟩ := ownsRow_row h.own
  refine ⟨A, c, rfl, a, b, fun hn => ?_⟩
  obtain ⟨g, off, rfl, hc⟩ := hr.2 hn
  refine ⟨g, off, rfl, fun i hi => ?_⟩
  obtain ⟨x, y, c0, c1, o1, o2⟩ := h.side i hi hi
  have hl := h.len
  exact ⟨x, y, (hc _ (by omega)).trans c0, by rw [Nat.add_assoc]; exact (hc _ (by omega)).trans c1, o1.ints, o2.ints⟩
theorem startOC_bad {m : MultiD} {ws : List (List Int)} (h : multiOk m = false) : startOC m ws = (blankC, 1) := by
  unfold startOC
  rw [h]
  rfl
theorem startOC_words {m : MultiD} {ws : List (List Int)} (h : multiOk m = true) (hn : ¬ ((ws.length : Int) = m.tp ∧ ws.all (wordOk m) = true)) : startOC m ws = (blankC, 2) := by
  unfold startOC
  rw [h, if_pos rfl, if_neg (show ¬ wordsOk m ws from hn)]
theorem startOC_yes {m : MultiD} {ws : List (List Int)} (h : multiOk m = true) (hn : (ws.length : Int) = m.tp) (hw : ws.all (wordOk m) = true) : startOC m ws = if (rightO m ws).length ≤ 200 then (startO m ws, 0) else (blankC, 5) := by
  unfold startOC
  rw [h, if_pos rfl, if_pos (show wordsOk m ws from ⟨hn, hw⟩)]
theorem rowW_take_succ (sy : Int) (ts : List (List Int)) (k j : Nat) (h : j < ts.length) : (rowW sy ts k).take (j + 1) = (rowW sy ts k).take j ++ [cellW sy k ts[j]] := by
  have hl : j < (rowW sy ts k).length := by simpa [rowW] using h
  rw [List.take_succ_eq_append_getElem hl]
  simp [rowW]
set_option maxRecDepth 20000 in
set_option maxHeartbeats 4000000 in
theorem StartOneTape_c (m : MultiD) (mv wv : Value) (ws : List (List Int)) (vs : List Value) (w : World) (hM : Mult w mv m) (hW : Row w 1 wv ws.length vs) (hI : ∀ i, (h : i < ws.length) → ∃ u, vs[i]? = some u ∧ Ints w u ws[i] ∧ Flat u) :
    Calls Tryz.prog 21 #[mv, wv] w (StaRes w (startOC m ws)) := by
  obtain ⟨i0, hi, hz0, hz1, hz2⟩ := info_parts intInfo
  obtain ⟨rv, rfl, hR⟩ := id hM
  obtain ⟨A, cA, rfl, _, _⟩ := hR.form
  obtain ⟨B, cB, rfl, hB1, hB2, hvl⟩ := id hW.form
  obtain ⟨g, hg⟩ : ∃ g, w.heap.size = g := ⟨_, rfl⟩
  obtain ⟨V, hV⟩ : ∃ V, V = (w.alloc (.cells #[.int .i64 m.tp, .int .i64 m.sy, .int .i64 m.st, .slice A m.rules.length cA] 26)).alloc (.cells #[.int .i64 0, .slice none 0 0, .slice none 0 0] 60) := ⟨_, rfl⟩
  have hX : Ext w V := by rw [hV]; exact (Ext.alloc _ _).trans (Ext.alloc _ _)
  have bM : Blk V g 26 #[.int .i64 m.tp, .int .i64 m.sy, .int .i64 m.st, .slice A m.rules.length cA] := by rw [hV]; exact (Blk.new _ _ _ _ hg).alloc _
  have bO : Blk V (g + 1) 60 #[.int .i64 0, .slice none 0 0, .slice none 0 0] := by rw [hV]; exact Blk.new _ _ _ _ (by simp [hg])
  have SM := StartMultiC_c m (.agg #[.int .i64 m.tp, .int .i64 m.sy, .int .i64 m.st, .slice A m.rules.length cA]) (.slice B ws.length cB) ws vs V ⟨_, rfl, hR.ext hX⟩ (hW.ext hX) (fun i hi => by
    obtain ⟨u, e, iu, hf⟩ := hI i hi
    exact ⟨u, e, iu.ext hX, hf⟩)
  have hgb : w.heap.size ≤ g + 1 := by omega
  obtain ⟨R, hR'⟩ : ∃ R, R = startOC m ws := ⟨_, rfl⟩
  rw [← hR']
  have HR := Lib.hid hR'
  clear hR'
  go_enter Tryz.func21, Tryz.ntmps21
  go_wp2_with fail
  try rw [← hV]
  try rw [hg]
  clear hV
  refine SM.mono ?_
  rintro e w1 ⟨hres, hx1⟩
  clear SM
  have hX1 := hX.trans hx1
  have bO1 := bO.ext hx1
  have bOf := bO1.ext (Ext.alloc w1 (.cells #[.int .i64 0, .slice none 0 0] 48))
  have ob := bOf.cell
  have of_ := bOf.frozen
  rcases hres with ⟨hm, rfl⟩ | ⟨hm, hn, rfl⟩ | ⟨hm, hn, hw, v, cl, rfl, hC⟩
  · have HE := Lib.hid (HR.out.trans (startOC_bad (ws := ws) hm))
    clear hm
    go_wp2
    rw [HE.out]
    exact bodyPost_ret (v := .tuple #[.agg #[.int .i64 0, .slice none 0 0, .slice none 0 0], .int .i64 1]) (by simp [results, Tryz.results21, go_sem, ob]) rfl (StaRes.fail hgb (hX1.trans (Ext.alloc _ _)) _ _ _)
  · have HE := Lib.hid (HR.out.trans (startOC_words hm hn))
    clear hm hn
    go_wp2
    rw [HE.out]
    exact bodyPost_ret (v := .tuple #[.agg #[.int .i64 0, .slice none 0 0, .slice none 0 0], .int .i64 2]) (by simp [results, Tryz.results21, go_sem, ob]) rfl (StaRes.fail hgb (hX1.trans (Ext.alloc _ _)) _ _ _)
  · have HE := Lib.hid (HR.out.trans (startOC_yes hm hn hw))
    obtain ⟨⟨tp1, tp2⟩, ⟨y1, y2⟩, _⟩ := multi_all hm
    obtain ⟨ts, hts⟩ : ∃ ts, ts = ws.map trim := ⟨_, rfl⟩
    have hT := hC.tapesA
    obtain ⟨At, ct, rfl, _, _⟩ := hT.form
    have hln : (ws.map startT).length = ts.length := by rw [hts]; simp
    have hAT : Hid (∀ i, (h : i < ts.length) → ∃ b off A0 n0 k0 n c A', At = some ⟨b, off, none⟩ ∧ w1.cell? ⟨b, off + i * 2, none⟩ = some (.slice A0 n0 k0) ∧ w1.cell? ⟨b, off + i * 2 + 1, none⟩ = some (.slice A' n c) ∧ n = ts[i].length ∧ Ints w1 (.slice A' n c) ts[i]) := Lib.hid fun i hi => by
      obtain ⟨b, off, vl, vr, e, c0, c1, il, ir⟩ := hT.at (i := i) (by rw [hln]; exact hi)
      have er : (ws.map startT)[i].r = ts[i] := by
        simp only [hts, List.getElem_map]
        rfl
      rw [er] at ir
      obtain ⟨A', c', rfl, _, _⟩ := id ir.form
      obtain ⟨A0, k0, rfl, _, _⟩ := id il.form
      exact ⟨b, off, A0, _, k0, _, c', A', e, c0, c1, rfl, ir⟩
    rw [hln]
    have htw : ∀ t ∈ ts, t.length ≤ 200 ∧ ∀ z ∈ t, 0 ≤ z ∧ z ≤ m.sy - 1 := fun t ht => by
      rw [hts] at ht
      obtain ⟨x, hx, rfl⟩ := List.mem_map.1 ht
      obtain ⟨a, b⟩ := wordOk_all (List.all_eq_true.1 hw x hx)
      exact ⟨Nat.le_trans (trim_len x) a, fun z hz => b z (trim_mem hz)⟩
    have HRT : Hid (trim (flatW m.sy ts (longL ts)) = rightO m ws) := Lib.hid (by rw [hts]; exact right_trim m.sy ws)
    have htn : ts.length ≤ 3 := by rw [hts, List.length_map]; omega
    have HTW := Lib.hid htw
    have bM1 := bM.ext hx1
    have m1 := bM1.cell 1
    simp only [List.getElem?_toArray, List.getElem?_cons_zero, List.getElem?_cons_succ] at m1
    obtain ⟨W1, hW1⟩ : ∃ W1, W1 = w1.alloc (.cells #[.int .i64 0, .slice At ts.length ct] 48) := ⟨_, rfl⟩
    have hXa : Ext w1 W1 := by rw [hW1]; exact Ext.alloc _ _
    have bC : Blk W1 w1.heap.size 48 #[.int .i64 0, .slice At ts.length ct] := by rw [hW1]; exact Blk.new _ _ _ _ rfl
    obtain ⟨gm, hgm⟩ : ∃ k, w1.heap.size = k := ⟨_, rfl⟩
    rw [hgm] at bC
    have hbase : g ≤ w1.heap.size := by rw [← hg]; exact hX1.size
    have bOa := bO1.ext hXa
    have m1 := hXa.cell m1
    have hXW := hX1.trans hXa
    clear hm hn hw hT hts hln htw ob of_ hC bM1
    go_wp2_with fail
    try rw [← hW1]
    try rw [hgm]
    clear hW1
    go_loopw [8, 29] (fun lo i wr => ∃ k : Nat, k ≤ ts.length ∧ lo = .int .i64 (longL (ts.take k) : Nat) ∧ i = .int .i64 k ∧ Ext W1 wr) (fun _ i _ => ts.length - (intOf i).toNat)
    case atStart => exact ⟨0, Nat.zero_le _, rfl, rfl, Ext.refl _⟩
    case round =>
      obtain ⟨k, hk, rfl, rfl, hxr⟩ := hrel
      by_cases hlt : k < ts.length
      · obtain ⟨b, off, A0, n0, k0, n, c, A', rfl, c0, c1, hnl, ir⟩ := hAT.out k hlt
        have hb200 := (HTW.out _ (List.getElem_mem hlt)).1
        have HL : Hid (max ((longL (ts.take k) : Nat) : Int) (n : Int) = ((longL (ts.take (k + 1)) : Nat) : Int)) := Lib.hid (by
          rw [List.take_succ_eq_append_getElem hlt, longL_snoc, hnl]
          omega)
        have c0 := hxr.cell (hXa.cell c0)
        have c1 := hxr.cell (hXa.cell c1)
        have hi1 : (0 : Int) ≤ (k : Int) := by omega
        have hi2 : (k : Int) < (ts.length : Int) := by omega
        clear hnl
        generalize longL (ts.take k) = L at *
        go_wp2_with fail
        go_roundw
        case rel => exact ⟨k + 1, by omega, by rw [← HL.out], by go_num, hxr.trans (Ext.alloc _ _)⟩
        case measure => simp [intOf]; omega
      · obtain rfl : k = ts.length := by omega
        rw [List.take_length]
        obtain ⟨N, hN⟩ : ∃ N, longL ts = N := ⟨_, rfl⟩
        have hN2 : N ≤ 200 := by rw [← hN]; exact longL_le (by omega) (fun t ht => (HTW.out t ht).1)
        rw [hN] at HRT ⊢
        clear hN
        obtain ⟨W2, hW2⟩ : ∃ W2, W2 = wr.alloc (.cells #[.int .i64 0, .slice none 0 0, .slice none 0 0] 60) := ⟨_, rfl⟩
        have hX2 : Ext wr W2 := by rw [hW2]; exact Ext.alloc _ _
        obtain ⟨gc, hgc⟩ : ∃ k, wr.heap.size = k := ⟨_, rfl⟩
        have g2 : GrR gc W2 gc (flatW m.sy ts 0) (.slice none 0 0) := ⟨by rw [hW2]; exact Blk.new _ _ _ _ hgc, World.ownsRow_nil ..⟩
        have hxr2 := hxr.trans hX2
        have hgcW : W1.heap.size ≤ gc := by rw [← hgc]; exact hxr.size
        have hxr0 : Ext W1 W2 := hxr2
        clear hxr
        go_wp2_with fail
        try rw [← hW2]
        try rw [hgc]
        clear hW2 hX2 hxr2
        go_loopw [41] (fun i wr => ∃ (k : Nat) (rv : Value), k ≤ N ∧ i = .int .i64 k ∧ GrR gc wr gc (flatW m.sy ts k) rv ∧ Ext W1 wr) (fun i _ => N - (intOf i).toNat)
        case atStart => exact ⟨0, _, Nat.zero_le _, rfl, g2, hxr0⟩
        case round =>
          clear g2 hxr0
          obtain ⟨k, rv, hk, rfl, hG, hxr⟩ := hrel
          by_cases hlt : k < N
          · have i1 : (k : Int) < (N : Int) := by omega
            have b0 := (bC.ext hxr).cell 1
            simp only [List.getElem?_toArray, List.getElem?_cons_zero, List.getElem?_cons_succ] at b0
            have hGl : (flatW m.sy ts k).length ≤ 600 := by
              rw [flatW_length]
              exact Nat.mul_le_mul (show k ≤ 200 by omega) htn
            obtain ⟨ys0, hys0⟩ : ∃ ys, flatW m.sy ts k = ys := ⟨_, rfl⟩
            have HYS : Hid (flatW m.sy ts (k + 1) = ys0 ++ (rowW m.sy ts k).take ts.length) := Lib.hid (by
              rw [flatW_succ, hys0, List.take_of_length_le (by simp [rowW])])
            rw [hys0] at hG hGl
            clear hys0
            obtain ⟨wq, hwq⟩ : ∃ q, q = wr := ⟨_, rfl⟩
            subst hwq
            go_wp2_with fail
            go_loopw [47] (fun i wr => ∃ (j : Nat) (rv : Value), j ≤ ts.length ∧ i = .int .i64 j ∧ GrR gc wr gc (ys0 ++ (rowW m.sy ts k).take j) rv ∧ Ext W1 wr) (fun i _ => ts.length - (intOf i).toNat)
            case atStart => exact ⟨0, rv, Nat.zero_le _, rfl, by simpa using hG, hxr⟩
            case round =>
              clear hG hxr b0
              obtain ⟨j, rv, hj, rfl, hG, hxr⟩ := hrel
              by_cases hjl : j < ts.length
              · obtain ⟨b, off, A0, n0, k0, n, c, A', rfl, c0, c1, hnl, ir⟩ := hAT.out j hjl
                have HS := Lib.hid (rowW_take_succ m.sy ts k j hjl)
                have hlen : (ys0 ++ (rowW m.sy ts k).take j).length ≤ 1000 := by
                  rw [List.length_append, List.length_take]
                  omega
                have hzb := getD_all (P := fun z => 0 ≤ z ∧ z ≤ m.sy - 1) (HTW.out _ (List.getElem_mem hjl)).2 ⟨Int.le_refl _, by omega⟩ k
                obtain ⟨z, hz⟩ : ∃ z, ts[j].getD k 0 = z := ⟨_, rfl⟩
                obtain ⟨x, hx⟩ : ∃ x, cellW m.sy k ts[j] = x := ⟨_, rfl⟩
                have HX : Hid (x = if k = 0 then z + m.sy else z) := Lib.hid (by rw [← hx, ← hz]; rfl)
                rw [hx] at HS
                have SA := fun w' (h : Ext w1 w') => symbolAt_c (.slice A' n c) ts[j] k w' (ir.ext h)
                rw [hz] at SA hzb
                clear hx hz hnl
                obtain ⟨ys, hys⟩ : ∃ ys, ys0 ++ (rowW m.sy ts k).take j = ys := ⟨_, rfl⟩
                rw [hys] at hlen hG
                have HYQ := Lib.hid hys
                clear hys
                obtain ⟨Ay, cy, rfl, _, _⟩ := id hG.r.ints.form
                have hx1r := hXa.trans hxr
                have c0 := hx1r.cell c0
                have c1 := hx1r.cell c1
                have hi1 : (0 : Int) ≤ (j : Int) := by omega
                have hi2 : (j : Int) < (ts.length : Int) := by omega
                obtain ⟨W3, hW3⟩ : ∃ W3, W3 = wr.alloc (.cells #[.slice A0 n0 k0, .slice A' n c] 91) := ⟨_, rfl⟩
                have hX3 : Ext wr W3 := by rw [hW3]; exact Ext.alloc _ _
                have bT : Blk W3 wr.heap.size 91 #[.slice A0 n0 k0, .slice A' n c] := by rw [hW3]; exact Blk.new _ _ _ _ rfl
                obtain ⟨gt, hgt⟩ : ∃ k, wr.heap.size = k := ⟨_, rfl⟩
                rw [hgt] at bT
                have t1 := bT.cell 1
                simp only [List.getElem?_toArray, List.getElem?_cons_zero, List.getElem?_cons_succ] at t1
                have SA3 := SA W3 (hx1r.trans hX3)
                have G3 := hG.ext hX3
                have X3 := hxr.trans hX3
                have m3 := X3.cell m1
                clear hG SA
                rw [hW3] at t1
                go_wp2_with fail
                try rw [← hW3]
                try rw [hgt]
                clear hW3 c0 c1
                refine SA3.mono ?_
                rintro e w' ⟨rfl, rfl⟩
                clear SA3
                go_upto_if 56 with fail
                go_cut [15] (fun u wx => u = .int .i64 x ∧ wx = W3)
                case first =>
                  by_cases hk0 : k = 0
                  · subst hk0
                    have HX2 : Hid (z + m.sy = x) := Lib.hid (by rw [HX.out]; rfl)
                    go_wp2_with fail
                    go_meet
                    rw [← HX2.out]
                    exact ⟨by go_num, rfl⟩
                  · have HX2 : Hid (z = x) := Lib.hid (by rw [HX.out, if_neg hk0])
                    have hk1 : ((k : Int) == 0) = false := by simp; omega
                    go_wp2_with fail
                    go_meet
                    rw [← HX2.out]
                    exact ⟨rfl, rfl⟩
                case rest =>
                  rename World => wx
                  obtain ⟨rfl, rfl⟩ := hcut
                  have f2 := G3.blk.cell 2
                  simp only [List.getElem?_toArray, List.getElem?_cons_zero, List.getElem?_cons_succ] at f2
                  have G4 := G3.ext (Ext.alloc wx (.cells #[.int .i64 x] 2))
                  have hsz3 := X3.size
                  have hgx : gc ≤ wx.heap.size := by have := G3.blk.lt; omega
                  go_wp2_with (at_builtin; refine wpList_append_own_at _ rfl _ _ 34 rfl gc 2 i0 (.int .i64 0) 1 8 Tryz.underlying34 hi hz0 hz1 hz2 rfl (by decide) _ _ _ rfl G4.r ⟨wx.heap.size, 0, none⟩ 1 1 [.int .i64 x] rfl rfl (cell_one_new _ _ _) ?c2 ?c3 ?c4 ?c5 ?_)
                  case c2 => intro u hu; simp at hu; subst hu; rfl
                  case c3 => unfold maxLen; omega
                  case c4 => omega
                  case c5 => simp; omega
                  intro v' w5 hown' hgrow _ _
                  have G5 := G4.push hown' hgrow
                  rw [← HYQ.out, List.append_assoc, ← HS.out] at G5
                  have HG5 := Lib.hid G5
                  have B5 := Blk.apart G4.blk G4.r (by decide) hgrow
                  have q2 := B5.cell 2
                  have qf := B5.frozen 2
                  simp only [List.getElem?_toArray, List.getElem?_cons_zero, List.getElem?_cons_succ] at q2
                  have HX5 : Hid (Ext W1 (w5.setCell ⟨gc, 2, none⟩ v')) := Lib.hid (((X3.trans (Ext.alloc _ _)).grown hgrow (fun b hb => by have := (G4.r.lt b hb).1; omega)).setCell hgcW _)
                  obtain ⟨A5, c5, rfl, _, _, _⟩ := (ownsRow_row hown').form
                  clear hown' hgrow G4 G5 f2 B5
                  go_wp2
                  go_roundw
                  case rel => exact ⟨j + 1, _, by omega, by go_num, HG5.out, HX5.out⟩
                  case measure => simp [intOf]; omega
              · obtain rfl : j = ts.length := by omega
                rw [← HYS.out] at hG
                go_wp2
                go_roundw
                case rel => exact ⟨k + 1, rv, by omega, by go_num, hG, hxr⟩
                case measure => simp [intOf]; omega
          · obtain rfl : k = N := by omega
            have hlf : (flatW m.sy ts k).length ≤ 600 := by
              rw [flatW_length]
              exact Nat.mul_le_mul hN2 htn
            obtain ⟨ys, hys⟩ : ∃ ys, flatW m.sy ts k = ys := ⟨_, rfl⟩
            rw [hys] at hG hlf HRT
            clear hys
            obtain ⟨Ay, cy, rfl, _, _⟩ := id hG.r.ints.form
            have TR := trimmed_c _ ys wr hG.r.ints (by omega)
            have hGt := hG.trim
            have hlt := trimN_le ys ys.length
            have htl : (trim ys).length = trimN ys ys.length := by simp [trim]; omega
            rw [HRT.out] at hGt htl
            have f2 := hG.blk.cell 2
            have ff := hG.blk.frozen 2
            simp only [List.getElem?_toArray, List.getElem?_cons_zero, List.getElem?_cons_succ] at f2
            have hXt := hxr.setCell (p := ⟨gc, 2, none⟩) hgcW (.slice Ay (trimN ys ys.length) cy)
            have HTL := Lib.hid htl
            have HSO : Hid (startO m ws = ⟨0, [], rightO m ws⟩) := Lib.hid rfl
            obtain ⟨ro, hro⟩ : ∃ r, rightO m ws = r := ⟨_, rfl⟩
            rw [hro] at HSO HE hGt htl
            have q0 := hGt.blk.cell 0
            have q1 := hGt.blk.cell 1
            have q2 := hGt.blk.cell 2
            simp only [List.getElem?_toArray, List.getElem?_cons_zero, List.getElem?_cons_succ] at q0 q1 q2
            have bOt := bOa.ext hXt
            have ob := bOt.cell
            have of_ := bOt.frozen
            have HG := Lib.hid hGt
            have HXT := Lib.hid (hXW.trans hXt)
            have hgcw : w.heap.size ≤ gc := by have := hXW.size; omega
            clear hGt hro HTL HRT
            generalize trimN ys ys.length = tn at *
            by_cases hl : tn ≤ 200
            · have hE2 := Lib.hid (HE.out.trans (if_pos (by omega)))
              rw [HSO.out] at hE2
              have hl2 : ¬ (200 : Int) < (tn : Int) := by omega
              go_wp2_with fail
              refine TR.mono ?_
              rintro e _ ⟨⟨A', c', e1, rfl⟩, rfl⟩
              cases e1
              clear TR
              go_wp2
              rw [hE2.out]
              exact bodyPost_ret (v := .tuple #[.agg #[.int .i64 0, .slice none 0 0, .slice Ay tn cy], .int .i64 0]) (by simp [results, Tryz.results21, go_sem, ob]) rfl (StaRes.done hgb HXT.out bOt HG.out.r hgcw _ _ _)
            · have hE2 := Lib.hid (HE.out.trans (if_neg (by omega)))
              have hl2 : (200 : Int) < (tn : Int) := by omega
              go_wp2_with fail
              refine TR.mono ?_
              rintro e _ ⟨⟨A', c', e1, rfl⟩, rfl⟩
              cases e1
              clear TR
              go_wp2
              rw [hE2.out]
              exact bodyPost_ret (v := .tuple #[.agg #[.int .i64 0, .slice none 0 0, .slice none 0 0], .int .i64 5]) (by simp [results, Tryz.results21, go_sem, ob]) rfl (StaRes.fail hgb HXT.out _ _ _)
end Go.Proofs.YtgeckhjkahnonaaGreatDoor
end
section
set_option linter.unusedSimpArgs false
set_option linter.unusedVariables false
namespace Go.Proofs.YtgeckhjkahnonaaGreatDoor
open Go Go.RowKit Go.Proofs
set_option maxHeartbeats 400000
/-- A machine that is a part of a maker. -/
def MachO (w : World) (b : Nat) (m : MachD) : Prop := ∃ rv, w.cell? ⟨b, 4, none⟩ = some (.int .i64 m.sy) ∧ w.cell? ⟨b, 5, none⟩ = some (.int .i64 m.st) ∧ w.cell? ⟨b, 6, none⟩ = some rv ∧ Rules w rv m.rules
theorem MachO.ext {w w' : World} {b : Nat} {m : MachD} (h : MachO w b m) (he : Ext w w') : MachO w' b m := by
  obtain ⟨rv, h0, h1, h2, h3⟩ := h
  exact ⟨rv, he.cell h0, he.cell h1, he.cell h2, h3.ext he⟩
end Go.Proofs.YtgeckhjkahnonaaGreatDoor
end
