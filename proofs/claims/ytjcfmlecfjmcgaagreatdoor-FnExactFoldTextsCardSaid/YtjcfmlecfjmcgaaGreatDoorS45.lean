/- Contract of the program's texts of a run, with the closure of FoldTexts. The machine is valid and the configuration is one of its.
Contract of the program's FoldTexts. The library's table is as its text lays it. -/
import Derived.Test.YtjcfmlecfjmcgaaGreatDoorS34
import Derived.Test.YtjcfmlecfjmcgaaGreatDoorS44
import Derived.Test.YtjcfmlecfjmcgaaGreatDoorS38
section
set_option linter.unusedSimpArgs false
set_option linter.unusedVariables false
namespace Go.Proofs.YtjcfmlecfjmcgaaGreatDoor
open Go Go.RowKit Go.Proofs Go.Shelf
attribute [local go_sem] Oper.semAt_some
set_option maxHeartbeats 400000
theorem strInfoT : (Tryz.prog.info? 9).map (fun i => (i.zero, i.size, i.bytes)) = some (some (.string ⟨#[]⟩), 1, 16) := by kernel_rfl
/-- The closure as a value. -/
abbrev fnT (bv bp : Nat) : Value := .func (.func 32) #[] #[.pointer (some ⟨bv, 0, none⟩), .pointer (some ⟨bp, 0, none⟩)]
/-- What the closure must do. -/
def TxtFn (w : World) (bv bp : Nat) (M : MachD) (c : ConfD) (f : ConfD → List UInt8) : Prop :=
  ∀ (i : Nat) (v1 v2 : Value) (W : World), RunsTo M c i → Ext w W → Ints W v1 (cfgI M c i).l → Ints W v2 (cfgI M c i).r → Flat v1 → Flat v2 →
    Calls Tryz.prog 32 #[.agg #[.int .i64 (cfgI M c i).q, v1, v2], .pointer (some ⟨bv, 0, none⟩), .pointer (some ⟨bp, 0, none⟩)] W fun e w' => e = .returned (.string (bsS (f (cfgI M c i)))) ∧ Ext W w'
set_option maxRecDepth 100000 in
set_option maxHeartbeats 4000000 in
theorem runTexts_c (w : World) (M : MachD) (c : ConfD) (mv lv rv : Value) (N bv bp : Nat) (f : ConfD → List UInt8) (hN : N ≤ 100000) (hm : machOk M = true) (hc : confB M c = true) (hr : Rules w mv M.rules) (hl : Ints w lv c.l) (hq : Ints w rv c.r) (f1 : Flat lv) (f2 : Flat rv) (hF : TxtFn w bv bp M c f) :
    Calls Tryz.prog 31 #[.agg #[.int .i64 M.sy, .int .i64 M.st, mv], .agg #[.int .i64 c.q, lv, rv], .int .i64 N, fnT bv bp] w (TxtOut w M c N f) := by
  obtain ⟨Am, cm, rfl, _, _⟩ := hr.form
  obtain ⟨Al, cl, rfl, _, _⟩ := hl.form
  obtain ⟨Ar, cr, rfl, _, _⟩ := hq.form
  obtain ⟨hg, hfit, ht⟩ := conf_good hc
  have hfi : fitI c = true := by simp [fitI, hfit]
  obtain ⟨k, hk⟩ : ∃ k, w.heap.size = k := ⟨_, rfl⟩
  obtain ⟨W, hW⟩ : ∃ W, ((((w.alloc (.cells #[.int .i64 M.sy, .int .i64 M.st, .slice Am M.rules.length cm] 35)).alloc (.cells #[.int .i64 c.q, .slice Al c.l.length cl, .slice Ar c.r.length cr] 37)).alloc (.cells #[fnT bv bp] 78)).alloc (.cells #[.slice none 0 0] 30)).alloc (.cells #[.int .i64 0] 2) = W := ⟨_, rfl⟩
  have hX : Ext w W := by rw [← hW]; exact ((((Ext.alloc _ _).trans (Ext.alloc _ _)).trans (Ext.alloc _ _)).trans (Ext.alloc _ _)).trans (Ext.alloc _ _)
  have bM : Blk W k 35 #[.int .i64 M.sy, .int .i64 M.st, .slice Am M.rules.length cm] := by rw [← hW]; exact ((((Blk.new _ _ _ _ hk).alloc _).alloc _).alloc _).alloc _
  have bC : Blk W (k + 1) 37 #[.int .i64 c.q, .slice Al c.l.length cl, .slice Ar c.r.length cr] := by rw [← hW]; exact (((Blk.new _ _ _ _ (by simp [hk])).alloc _).alloc _).alloc _
  have bF : Blk W (k + 2) 78 #[fnT bv bp] := by rw [← hW]; exact ((Blk.new _ _ _ _ (by simp [hk])).alloc _).alloc _
  have bR : Blk W (k + 3) 30 #[.slice none 0 0] := by rw [← hW]; exact (Blk.new _ _ _ _ (by simp [hk])).alloc _
  have bE : Blk W (k + 4) 2 #[.int .i64 0] := by rw [← hW]; exact Blk.new _ _ _ _ (by simp [hk])
  have hz : W.heap.size = k + 5 := by rw [← hW]; simp [hk]
  have m0 := bM.cell 0
  have m1 := bM.cell 1
  have m2 := bM.cell 2
  have c0 := bC.cell 0
  have c1 := bC.cell 1
  have c2 := bC.cell 2
  simp only [List.getElem?_toArray, List.getElem?_cons_zero, List.getElem?_cons_succ] at m0 m1 m2 c0 c1 c2
  have hRO := runnerOf_c W M c _ _ _ (hr.ext hX) (hl.ext hX) (hq.ext hX) f1 f2 (by omega) (by omega)
  refine (callsIn_wide (n := 8)).1 ?_
  refine callsIn_of_wp_marks Tryz.func31 rfl trivial ?_ rfl
  simp only [Tryz.ntmps31, List.size_toArray, List.length_cons, List.length_nil, Nat.reduceAdd, Nat.reduceSub, Array.replicate_succ, Array.replicate_zero, List.push_toArray, List.append_toArray, List.nil_append, List.cons_append]
  gi_wp2_with fail
  try rw [hW]
  try rw [hk]
  clear hW
  refine ⟨trivial, (callsIn_wide.2 hRO).mono ?_⟩
  rintro e w1 ⟨b, lv1, rv1, rfl, hR1⟩
  have hRw := hR1.lower hX hr
  have hX1 : Ext W w1 := hR1.ext0
  have hb1 := hR1.low
  rw [hz] at hb1
  have hapk : ∀ i, i < k + 5 → Apt b i lv1 rv1 := fun i hi => ⟨by omega, fun e => by have := (hR1.l.lt i e).1; omega, fun e => by have := (hR1.r.lt i e).1; omega⟩
  have haph : ∀ i, w1.heap.size ≤ i → Apt b i lv1 rv1 := fun i hi => ⟨by have := hR1.blk.lt; omega, fun e => by have := (hR1.l.lt i e).2; omega, fun e => by have := (hR1.r.lt i e).2; omega⟩
  obtain ⟨h, hh⟩ : ∃ h, w1.heap.size = h := ⟨_, rfl⟩
  rw [hh] at haph
  have hkh : k + 5 ≤ h := by rw [← hh, ← hz]; exact hX1.size
  gi_wp2_with (refine ⟨trivial, ?_⟩; gi_at_call 64; refine (callsIn_wide.2 (steps_c _ (N : Int) _ ⟨_, rfl⟩)).mono ?_; rintro e w' ⟨rfl, rfl⟩)
  obtain ⟨W4, hW4⟩ : ∃ W4, W4 = ((((w1.alloc (.cells #[] 9)).alloc (.cells #[.pointer (some ⟨b, 0, none⟩)] 108)).alloc (.cells #[.slice (some ⟨h, 0, none⟩) 0 0] 30)).alloc (.cells #[.pointer (some ⟨b, 0, none⟩)] 108)).alloc (.cells #[.int .i64 (N : Int)] 2) := ⟨_, rfl⟩
  have hX4 : Ext w1 W4 := by rw [hW4]; exact ((((Ext.alloc _ _).trans (Ext.alloc _ _)).trans (Ext.alloc _ _)).trans (Ext.alloc _ _)).trans (Ext.alloc _ _)
  have hR4 := hRw.ext hX4
  have hB : BoxR W4 b (h + 1 + 1 + 1 + 1) (h + 1 + 1 + 1) N lv1 rv1 := by
    have a5 := haph (h + 1 + 1 + 1 + 1) (by omega)
    have a4 := haph (h + 1 + 1 + 1) (by omega)
    refine ⟨?_, ?_, a5.nl, a5.nr, a4.nl, a4.nr, a5.nb, a4.nb⟩
    · rw [hW4]; exact Blk.new _ _ _ _ (by simp [hh])
    · rw [hW4]; exact (Blk.new _ _ _ _ (by simp [hh])).alloc _
  have hV4 : VarT W4 k h b (fnT bv bp) 0 (.slice (some ⟨h, 0, none⟩) 0 0) := by
    refine ⟨(bF.ext hX1).ext hX4, (bR.ext hX1).ext hX4, (bE.ext hX1).ext hX4, ?_, ?_⟩
    · rw [hW4]; exact (((Blk.new _ _ _ _ (by simp [hh])).alloc _).alloc _).alloc _
    · rw [hW4]; exact ((Blk.new _ _ _ _ (by simp [hh])).alloc _).alloc _
  have ho4 : W4.ownsRow h 9 1 (.slice (some ⟨h, 0, none⟩) 0 0) 0 (svB (firstT M c f 0)) := by
    rw [hW4, ← hh]
    exact ownsRow_ext (World.ownsRow_made (base := w1.heap.size) (e := 9) (size := 1) w1 #[] 0 (by simp) (by unfold maxLen; omega) (by simp)) ((((Ext.alloc _ _).trans (Ext.alloc _ _)).trans (Ext.alloc _ _)).trans (Ext.alloc _ _))
  have hA4 : AptV b k h lv1 rv1 := fun i hi => by
    rcases hi with e | e | e | e | e
    · exact hapk i (by omega)
    · exact hapk i (by omega)
    · exact hapk i (by omega)
    · exact haph i (by omega)
    · exact haph i (by omega)
  have hT4 : ∀ g, (Value.slice (some ⟨h, 0, none⟩) 0 0).ownBlock = some g → Apt b g lv1 rv1 ∧ g ≠ h + 3 ∧ g ≠ h + 4 := fun g hg => by
    simp [Value.ownBlock] at hg
    subst hg
    exact ⟨haph _ (Nat.le_refl _), by omega, by omega⟩
  rw [← hW4]
  have hsz : W4.heap.size = h + 1 + 1 + 1 + 1 + 1 := by rw [hW4]; simp [hh]
  clear hW4
  have hlow : w.heap.size ≤ W4.heap.size := hR4.ext0.size
  have hwk : w.heap.size = k := hk
  clear hRO m0 m1 m2 c0 c1 c2 bM bC bF bR bE
  have h1 : 1 ≤ 8 := by omega
  refine wpIn_rangeFunc_W rfl h1 (gf := 97) (lb := #[.pointer (some ⟨h + 1 + 1 + 1 + 1, 0, none⟩), .pointer (some ⟨h + 1 + 1 + 1, 0, none⟩)]) rfl trivial (enters_of Tryz.func97 (by kernel_rfl) rfl)
    (steps1_w (8 - 1) (by omega) w W4 b (h + 1 + 1 + 1 + 1) (h + 1 + 1 + 1) M c (.slice Am M.rules.length cm) lv1 rv1 N hN hm hg hfi hR4 hB) (fun h k => KpR.trans h k) (fun W l o o' hl h1 h2 _ => KpR.turn W l o o' (by omega) (by omega) (by omega) h1 h2) (Below.refl _ _) (fun _ => rfl)
    (fun A B h => WrR.keeps h) (IFt w b M (.slice Am M.rules.length cm) k h (fnT bv bp) c f) (IxFt w b k h (fnT bv bp)) (iFt_own hlow) (ixFt_own hlow) iFt_w (stR_own hlow) (sR_own hlow) (spR_own hlow)
    ⟨c, lv1, rv1, _, hR4, hA4, hV4, ho4, hT4, rfl, by omega⟩
    (fun x => { tmps := #[.agg #[.int .i64 M.sy, .int .i64 M.st, .slice Am M.rules.length cm], .agg #[.int .i64 c.q, .slice Al c.l.length cl, .slice Ar c.r.length cr], .int .i64 (N : Int), fnT bv bp, .pointer (some ⟨k, 0, none⟩), .pointer (some ⟨k + 1, 0, none⟩), undef, .pointer (some ⟨k + 1 + 1, 0, none⟩), .pointer (some ⟨k + 1 + 1 + 1, 0, none⟩), .pointer (some ⟨k + 1 + 1 + 1 + 1, 0, none⟩), .pointer (some ⟨h + 1, 0, none⟩), .pointer (some ⟨h + 1 + 1, 0, none⟩), undef, .bool x.2, .agg #[.int .i64 M.sy, .int .i64 M.st, .slice Am M.rules.length cm], .agg #[.int .i64 c.q, .slice Al c.l.length cl, .slice Ar c.r.length cr], .pointer (some ⟨b, 0, none⟩), .slice (some ⟨h, 0, none⟩) 0 0, .pointer (some ⟨b, 0, none⟩), .int .i64 (N : Int), .func (.func 97) #[] #[.pointer (some ⟨h + 1 + 1 + 1 + 1, 0, none⟩), .pointer (some ⟨h + 1 + 1 + 1, 0, none⟩)], .int .i64 x.1, .bool x.2, undef, undef, undef, undef, undef, undef, undef, undef, undef, undef], defers := [] }) ?assign ?body ?done ?stop
  case assign =>
    intro l x W K hK
    gi_wp2
    exact hK
  case body =>
    obtain ⟨i0, hi, hz0, hz1, hz2⟩ := info_parts strInfoT
    rintro l pre ⟨n, room⟩ W' ⟨d, l1, r1, tv, hR1, hA1, hV1, hoT, hT1, hpre, hzW⟩ ⟨i, l2, r2, hR2, hpl, hcase⟩ _
    obtain ⟨rfl, rfl⟩ := hR2.vals hR1
    clear hR1
    have hbl := hR2.blk.lt
    cases room with
    | true =>
      have hc2 : n = (i : Int) ∧ RunsTo M c i ∧ i ≤ N := by
        rcases hcase with ⟨e, h1, h2⟩ | ⟨e, _⟩
        · simp at e; exact ⟨e, h1, h2⟩
        · simp at e
      clear hcase
      obtain ⟨rfl, hRT, hiN⟩ := hc2
      have HRT := Lib.hid hRT
      obtain ⟨hf1, hf2⟩ := fit_both (hRT.fit i (Nat.le_refl _))
      rw [hpl] at hoT hpre
      have b0 := hV1.t.cell 0
      have b1 := hV1.f.cell 0
      have b2 := hV1.p.cell 0
      simp only [List.getElem?_toArray, List.getElem?_cons_zero] at b0 b1 b2
      have b0 := (Ext.drew W').cell b0
      have b1 := (Ext.drew W').cell b1
      have b2 := (Ext.drew W').cell b2
      obtain ⟨At, ct, rfl, hct, hct2, _⟩ := (ownsRow_row hoT).form
      have hCF := config_c w W'.drew b M (cfgI M c i) _ _ _ (hR2.ext (Ext.drew W')) (by omega) (by omega)
      have hXw : Ext w W'.drew := hR2.ext0.trans (Ext.drew W')
      obtain ⟨s, hs⟩ : ∃ s, bsS (f (cfgI M c i)) = s := ⟨_, rfl⟩
      have HS := Lib.hid hs
      have HSV := Lib.hid (firstT_svB M c f i)
      rw [hs] at HSV
      have hFi : ∀ (v1 v2 : Value) (X : World), Ext w X → Ints X v1 (cfgI M c i).l → Ints X v2 (cfgI M c i).r → Flat v1 → Flat v2 →
        Calls Tryz.prog 32 #[.agg #[.int .i64 (cfgI M c i).q, v1, v2], .pointer (some ⟨bv, 0, none⟩), .pointer (some ⟨bp, 0, none⟩)] X fun e w' => e = .returned (.string s) ∧ Ext X w' := fun v1 v2 X hx h1 h2 f1 f2 => by rw [← hs]; exact hF i v1 v2 X HRT.out hx h1 h2 f1 f2
      have HPRE : Hid (pre ++ [((i : Int), true)] = roundsT (i + 1)) := by unfold Hid; rw [roundsT_succ, ← hpre]
      clear hs hpre hRT
      gi_wp2_with fail
      refine wpIn_region_ordT 6 (readsT [0, 1, 2] (.stir 3 (.stir 4 (.stir 5 .done)))) (by kernel_rfl) (by kernel_rfl) (by kernel_rfl) (by rintro ⟨_, _, hh⟩; exact hh) (fun _ _ _ _ _ h => h) ?_
      simp only [readsT]
      iterate 3 (refine wpOrdT_read (v := ?_) (by rfl) (Or.inl ⟨by rfl, fun x hx => ?_⟩) ?_; rotate_left; (· have a1 := hx.cell b0; have a2 := hx.cell b1; have a3 := hx.cell b2; go_simp; try with_reducible rfl); try simp only [Act.put, List.setIfInBounds_toArray, List.set_cons_zero, List.set_cons_succ])
      refine wpOrdT_keep (by rfl) (fun K hK => ?_)
      go_simp
      go_at_call 65
      refine hCF.mono ?_
      rintro e w2 ⟨lv2, rv2, rfl, ol2, or2, _, hx2⟩
      refine hK _ _ hx2 ?_
      clear hK K
      refine wpOrdT_keep (by rfl) (fun K hK => ?_)
      go_simp
      refine (hFi lv2 rv2 w2 (hXw.trans hx2) ol2.ints or2.ints ol2.flat or2.flat).mono ?_
      rintro e w3 ⟨rfl, hx3⟩
      refine hK _ _ (hx2.trans hx3) ?_
      clear hK K
      refine wpOrdT_keep (by rfl) (fun K hK => ?_)
      go_simp
      refine hK _ _ ((hx2.trans hx3).trans (Ext.alloc _ _)) ?_
      clear hK K
      refine wpOrdT_done ?_
      try simp only [List.drop_succ_cons, List.drop_zero]
      have hX3 : Ext W' w3 := ((Ext.drew W').trans hx2).trans hx3
      have hs3 := hX3.size
      clear hCF hFi b0 b1 b2 ol2 or2 hXw
      go_wp2_with (at_builtin; refine wpList_append_own_at _ rfl _ _ 30 rfl h 9 i0 (.string ⟨#[]⟩) 1 16 Tryz.underlying30 hi hz0 hz1 hz2 rfl (by decide) _ _ _ rfl ((ownsRow_ext hoT hX3).alloc _) ⟨w3.heap.size, 0, none⟩ 1 1 [.string s] rfl rfl ?c1 ?c2 ?c3 ?c4 ?c5 ?_)
      case c1 =>
        intro j u hj
        match j, hj with
        | 0, hj => simp at hj; subst hj; simp [Addr.add]
      case c2 => intro u hu; simp at hu; subst hu; rfl
      case c3 => unfold maxLen; omega
      case c4 => omega
      case c5 => simp; omega
      intro v' w4 hown' hgrow _ hat
      obtain ⟨Av, cv, rfl, _, _, _⟩ := (ownsRow_row hown').form
      have hXa : Ext W' (w3.alloc (.cells #[.string s] 9)) := hX3.trans (Ext.alloc _ _)
      have hoA := ownsRow_ext hoT hXa
      have hVa := hV1.ext hXa
      have V4 := hVa.kept hgrow (fun r e => .inr (hVa.row hoA r e))
      have hrow := fun r (e : (Value.slice At i ct).ownBlock = some r) => (⟨by have := (hoA.lt r e).1; omega, (hT1 r e).1⟩ : w.heap.size ≤ r ∧ Apt b r _ _)
      have hgw : w.heap.size ≤ h + 2 := by omega
      have ha2 := hA1 (h + 2) (.inr (.inr (.inr (.inr rfl))))
      have R4 := (hR2.ext hXa).row hgrow hrow
      have R5 := R4.apart (p := ⟨h + 2, 0, none⟩) ha2.nb ha2.nl ha2.nr hgw (.slice Av (i + 1) cv)
      have V5 := V4.setT hkh (.slice Av (i + 1) cv)
      have hlen' : (pre ++ [((i : Int), true)]).length = i + 1 := by rw [List.length_append, hpl]; rfl
      have hbox : ∀ j, j < W'.heap.size → some j ≠ (Value.slice At i ct).ownBlock → j ≠ h + 2 → (w4.setCell ⟨h + 2, 0, none⟩ (.slice Av (i + 1) cv)).heap[j]? = W'.heap[j]? := fun j hj hne hn2 =>
        (Below.heap_setCell _ _ _ _ hn2).trans ((hgrow.block j (Nat.lt_of_lt_of_le hj hXa.size) hne).trans (Below.block hXa j hj))
      have hsz5 : W'.heap.size ≤ (w4.setCell ⟨h + 2, 0, none⟩ (.slice Av (i + 1) cv)).heap.size := by
        have a1 := hXa.size
        have a2 := hgrow.size
        have a3 := (grownBy_setCell w4 ⟨h + 2, 0, none⟩ (.slice Av (i + 1) cv)).size
        omega
      have hK4 : KeepsOthers W' w4 := (show KeepsOthers W' _ from ⟨Ext.size hXa, fun k o hk ho => (Below.block hXa k (Array.getElem?_eq_some_iff.1 hk).1).trans hk⟩).trans (KeepsOthers.of_grownBy hgrow (fun j o hj hl => by
        rcases hoA.2 with ⟨e, _⟩ | ⟨g', cap, cur, e, _, hg', _⟩
        · rw [e] at hj; simp [Value.ownBlock] at hj
        · rw [e] at hj
          simp [Value.ownBlock] at hj
          subst hj
          rw [hg'] at hl
          cases hl
          rfl))
      have hl1 := fun g e => (hR2.l.lt g e).2
      have hr1 := fun g e => (hR2.r.lt g e).2
      have hX5s := hXa.size
      have HF : Hid (KeepsFrom (h + 1 + 1 + 1 + 1 + 1) W' (w4.setCell ⟨h + 2, 0, none⟩ (.slice Av (i + 1) cv)) ∧ KpR w b (h + 1 + 1 + 1 + 1) (h + 1 + 1 + 1) M (.slice Am M.rules.length cm) W' (w4.setCell ⟨h + 2, 0, none⟩ (.slice Av (i + 1) cv)) ∧ IFt w b M (.slice Am M.rules.length cm) k h (fnT bv bp) c f (pre ++ [((i : Int), true)]) (w4.setCell ⟨h + 2, 0, none⟩ (.slice Av (i + 1) cv))) := by
        refine ⟨(hK4.trans (KeepsOthers.setCell _ _ _)).from _, kp_of hR2 (fun d' hd' => ((hd'.ext hXa).row hgrow hrow).apart (p := ⟨h + 2, 0, none⟩) ha2.nb ha2.nl ha2.nr hgw _) hsz5 (hbox _ (by omega) (fun e => (hT1 _ e.symm).2.2 rfl) (by omega)) (hbox _ (by omega) (fun e => (hT1 _ e.symm).2.1 rfl) (by omega)), _, _, _, _, R5, hA1, V5, ?_, ?_, ?_, Nat.le_trans hzW hsz5⟩
        · rw [hlen', HSV.out]
          exact ownsRow_far (p := ⟨h + 2, 0, none⟩) hown' (fun q hq e => blk_ne_row V4.t hown' (by decide) (by rw [hq, e])) (.slice Av (i + 1) cv)
        · intro g hg
          rcases hat with e | e
          · rw [e] at hg; exact hT1 g hg
          · rw [e] at hg
            simp at hg
            subst hg
            exact ⟨⟨by simp at hX5s ⊢; omega, fun e => by have := hl1 _ e; omega, fun e => by have := hr1 _ e; omega⟩, by simp; omega, by simp; omega⟩
        · rw [hlen']; exact HPRE.out
      have g0 := V4.t.cell 0
      have gf := V4.t.frozen 0
      simp only [List.getElem?_toArray, List.getElem?_cons_zero] at g0
      clear hown' hgrow hoA hoT hVa V5 R4 R5 hK4 hat hbox hrow HSV HPRE
      go_wp2
      exact HF.out
    | false =>
      have hFl : FullAt M c N i := by
        rcases hcase with ⟨e, _⟩ | ⟨e, h1⟩
        · simp at e
        · exact h1
      clear hcase hpre hpl
      have c0 := hV1.r.cell 0
      have c1 := hV1.e.cell 0
      have f0 := hV1.r.frozen 0
      have f1' := hV1.e.frozen 0
      simp only [List.getElem?_toArray, List.getElem?_cons_zero] at c0 c1
      have a3 := hA1 (k + 3) (.inr (.inl rfl))
      have a4 := hA1 (k + 4) (.inr (.inr (.inl rfl)))
      have hgw3 : w.heap.size ≤ k + 3 := by omega
      have hgw4 : w.heap.size ≤ k + 4 := by omega
      have V5 := (hV1.setR hkh).setE hkh 5
      obtain ⟨hK1, hR3⟩ := kp_set (bq := h + 1 + 1 + 1 + 1) (bp := h + 1 + 1 + 1) (p := ⟨k + 3, 0, none⟩) hR2 a3 hgw3 (by show h + 1 + 1 + 1 + 1 ≠ k + 3; omega) (by show h + 1 + 1 + 1 ≠ k + 3; omega) (.slice none 0 0)
      obtain ⟨hK2, hR4'⟩ := kp_set (bq := h + 1 + 1 + 1 + 1) (bp := h + 1 + 1 + 1) (p := ⟨k + 4, 0, none⟩) hR3 a4 hgw4 (by show h + 1 + 1 + 1 + 1 ≠ k + 4; omega) (by show h + 1 + 1 + 1 ≠ k + 4; omega) (.int .i64 5)
      have hEX := hR4'.ext0
      gi_wp2
      exact ⟨((KeepsOthers.setCell _ _ _).trans (KeepsOthers.setCell _ _ _)).from _, hK1.trans hK2, rfl, ⟨pre, (n, false), rfl, rfl⟩, ⟨_, V5⟩, hEX⟩
  case done =>
    rintro D xs W' hD ⟨i, l2, r2, p, hR2, hcase⟩ ⟨d, l1, r1, tv, hR1, hA1, hV1, hoT, hT1, hpre, hzW⟩ hK
    rcases hcase with ⟨e, hEnd⟩ | ⟨e, _⟩
    · obtain ⟨hxl, _⟩ := roundsT_last hpre e
      have HEND := Lib.hid hEnd
      clear hEnd
      rw [hxl] at hoT
      obtain ⟨At, ct, rfl, _, _, _⟩ := (ownsRow_row hoT).form
      have c0 := hV1.t.cell 0
      have r0 := hV1.r.cell 0
      have e0 := hV1.e.cell 0
      have rf := hV1.r.frozen 0
      have ef := hV1.e.frozen 0
      simp only [List.getElem?_toArray, List.getElem?_cons_zero] at c0 r0 e0
      have hEX := hR2.ext0
      have hT3 : ∀ g, (Value.slice At (i + 1) ct).ownBlock = some g → g ≠ k + 3 ∧ g ≠ k + 4 := fun g hg => ⟨(hV1.row hoT g hg).2.1, (hV1.row hoT g hg).2.2.1⟩
      have o5 := ownsRow_far (p := ⟨k + 4, 0, none⟩) (ownsRow_far (p := ⟨k + 3, 0, none⟩) hoT (fun g hg => (hT3 g hg).1) (.slice At (i + 1) ct)) (fun g hg => (hT3 g hg).2) (.int .i64 0)
      have E5 := (hEX.setCell (p := ⟨k + 3, 0, none⟩) (by show w.heap.size ≤ k + 3; omega) (.slice At (i + 1) ct)).setCell (p := ⟨k + 4, 0, none⟩) (by show w.heap.size ≤ k + 4; omega) (.int .i64 0)
      have B3 := (hV1.r.set_ 0 (.slice At (i + 1) ct)).far (p := ⟨k + 4, 0, none⟩) (by show k + 3 ≠ k + 4; omega) (.int .i64 0)
      have B4 := (hV1.e.far (p := ⟨k + 3, 0, none⟩) (by show k + 4 ≠ k + 3; omega) (.slice At (i + 1) ct)).set_ 0 (.int .i64 0)
      have K7 := (KeepsOthers.setCell (W'.setCell ⟨k + 3, 0, none⟩ (.slice At (i + 1) ct)) ⟨k + 4, 0, none⟩ (.int .i64 0)).same D _ ((KeepsOthers.setCell W' ⟨k + 3, 0, none⟩ (.slice At (i + 1) ct)).same D _ hK rfl) rfl
      have HAll := Lib.hid (And.intro o5 (And.intro E5 (And.intro B3 (And.intro B4 K7))))
      clear o5 E5 B3 B4 K7 hT3 hoT
      gi_wp2
      obtain ⟨o5, E5, B3, B4, K7⟩ := HAll.out
      refine ⟨by simp, .inl ⟨_, _, rfl, run_takeDeferred K7, ?_⟩⟩
      have hgr := grownBy_putObj' ((W'.setCell ⟨k + 3, 0, none⟩ (.slice At (i + 1) ct)).setCell ⟨k + 4, 0, none⟩ (.int .i64 0)) D (.deferred none)
      have e3 := (B3.kept hgr (fun e => by injection e with e; omega)).cell 0
      have e4 := (B4.kept hgr (fun e => by injection e with e; omega)).cell 0
      have o6 := own_same o5 (fun g hgl => hgr.block g (o5.lt g hgl).2 (fun e => by injection e with e; subst e; exact own_not_cells o5 hgl ⟨_, K7, rfl⟩))
      have E6 := E5.grown hgr (fun r e => by cases e; omega)
      have hln := firstT_length M c f (i + 1)
      refine ⟨.tuple #[.slice At (i + 1) ct, .int .i64 0], by simp [results, Tryz.f31, go_sem, e3, e4], firstT M c f (i + 1), 0, _, rfl, ?_, .inl ⟨i, HEND.out, rfl, rfl⟩, E6⟩
      rw [hln]
      exact ownsRow_base o6 (by omega)
    · have := (roundsT_last hpre e).2
      cases this
  case stop =>
    rintro D cd pre W' hD ⟨i, l2, r2, p, hR2, hcase⟩ ⟨rfl, ⟨p', x, hpx, hx2⟩, ⟨tv, hV1⟩, hE⟩ hK
    rcases hcase with ⟨rfl, _⟩ | ⟨rfl, hFull⟩
    · have := List.append_inj_right' hpx rfl
      simp at this
      rw [← this] at hx2
      simp at hx2
    · have r0 := hV1.r.cell 0
      have e0 := hV1.e.cell 0
      simp only [List.getElem?_toArray, List.getElem?_cons_zero] at r0 e0
      have HFL := Lib.hid hFull
      clear hFull
      gi_wp2
      refine ⟨by simp, .inl ⟨_, _, rfl, run_takeDeferred hK, ?_⟩⟩
      have hgr := grownBy_putObj' W' D (.deferred none)
      have e3 := (hV1.r.kept hgr (fun e => by injection e with e; omega)).cell 0
      have e4 := (hV1.e.kept hgr (fun e => by injection e with e; omega)).cell 0
      refine ⟨.tuple #[.slice none 0 0, .int .i64 5], by simp [results, Tryz.f31, go_sem, e3, e4], [], 5, _, rfl, World.ownsRow_nil .., .inr ⟨⟨i, HFL.out⟩, rfl, rfl⟩, hE.grown hgr (fun r e => by cases e; omega)⟩
end Go.Proofs.YtjcfmlecfjmcgaaGreatDoor
end
section
set_option linter.unusedSimpArgs false
set_option linter.unusedVariables false
namespace Go.Proofs.YtjcfmlecfjmcgaaGreatDoor
open Go Go.RowKit Go.Proofs
set_option maxHeartbeats 400000
/-- A list of texts and a code, as a call gives them. -/
def TxRes (w : World) (S : List (List UInt8) → Int → Prop) (e : Ending) (w' : World) : Prop :=
  ∃ L kk tv, e = .returned (.tuple #[tv, .int .i64 kk]) ∧ w'.ownsRow w.heap.size 9 1 tv L.length (svB L) ∧ S L kk ∧ Ext w w'
theorem TxRes.none {w w' : World} {S : List (List UInt8) → Int → Prop} {k : Int} (hS : S [] k) (hX : Ext w w') : TxRes w S (.returned (.tuple #[.slice none 0 0, .int .i64 k])) w' :=
  ⟨[], k, _, rfl, World.ownsRow_nil .., hS, hX⟩
theorem startF_some {m : MachD} {c : ConfD} (h : (startF m c).2 = 0) : ∃ s, foldOf m = some s ∧ confB (foldM m s) (startF m c).1 = true := by
  unfold startF at h ⊢
  cases hf : foldOf m with
  | none => rw [hf] at h; simp at h
  | some s =>
    rw [hf] at h
    refine ⟨s, rfl, ?_⟩
    simp only at h ⊢
    split at h
    · rename_i h1
      rw [if_pos h1]
      split at h
      · rename_i h2
        rw [if_pos h2]
        exact h2
      · simp at h
    · simp at h
set_option maxRecDepth 20000 in
set_option maxHeartbeats 4000000 in
theorem FoldTexts_c (w : World) (m : MachD) (c : ConfD) (n : Int) (mv lv rv : Value) (hr : Rules w mv m.rules) (hl : Ints w lv c.l) (hq : Ints w rv c.r) (hT : Tab w) :
    Calls Tryz.prog 9 #[.agg #[.int .i64 m.sy, .int .i64 m.st, mv], .agg #[.int .i64 c.q, lv, rv], .int .i64 n] w (TxRes w (FTxt m c n)) := by
  obtain ⟨Am, cm, rfl, _, _⟩ := hr.form
  obtain ⟨Al, cl, rfl, _, _⟩ := hl.form
  obtain ⟨Aq, cq, rfl, _, _⟩ := hq.form
  obtain ⟨k, hk⟩ : ∃ k, w.heap.size = k := ⟨_, rfl⟩
  obtain ⟨W, hW⟩ : ∃ W, W = (w.alloc (.cells #[.int .i64 m.sy, .int .i64 m.st, .slice Am m.rules.length cm] 35)).alloc (.cells #[.int .i64 c.q, .slice Al c.l.length cl, .slice Aq c.r.length cq] 37) := ⟨_, rfl⟩
  have hX : Ext w W := by rw [hW]; exact (Ext.alloc _ _).trans (Ext.alloc _ _)
  have bM : Blk W k 35 #[.int .i64 m.sy, .int .i64 m.st, .slice Am m.rules.length cm] := by rw [hW]; exact (Blk.new _ _ _ _ hk).alloc _
  have bC : Blk W (k + 1) 37 #[.int .i64 c.q, .slice Al c.l.length cl, .slice Aq c.r.length cq] := by rw [hW]; exact Blk.new _ _ _ _ (by simp [hk])
  have hV := ValidConfig_c _ _ m c W ⟨_, rfl, hr.ext hX⟩ ⟨_, _, rfl, hl.ext hX, hq.ext hX⟩
  obtain ⟨v, hv⟩ : ∃ v, (machOk m && confB m c) = v := ⟨_, rfl⟩
  obtain ⟨d, hd⟩ : ∃ d, inB n 0 599 = d := ⟨_, rfl⟩
  have hTC := fun w => textsCode_c v n w
  rw [hv] at hV
  rw [hd] at hTC
  have HV := Lib.hid hv
  have HD := Lib.hid hd
  clear hv hd
  go_enter Tryz.func9, Tryz.ntmps9
  go_wp2_with fail
  try rw [← hW]
  try rw [hk]
  clear hW
  refine hV.mono ?_
  rintro e w1 ⟨rfl, hx1⟩
  go_wp2_with fail
  refine (hTC w1).mono ?_
  rintro e w' ⟨rfl, rfl⟩
  have hX1 := hX.trans hx1
  have bM1 := bM.ext hx1
  have bC1 := bC.ext hx1
  have m0 := bM1.cell 0
  have m1 := bM1.cell 1
  have m2 := bM1.cell 2
  have c0 := bC1.cell 0
  have c1 := bC1.cell 1
  have c2 := bC1.cell 2
  simp only [List.getElem?_toArray, List.getElem?_cons_zero, List.getElem?_cons_succ] at m0 m1 m2 c0 c1 c2
  cases v with
  | false =>
    have HF : Hid (FTxt m c n [] 1) := by
      unfold Hid FTxt
      rw [HV.out]
      exact ⟨rfl, rfl⟩
    rw [show codeT false d = 1 from rfl]
    go_wp2
    go_ret2
    exact TxRes.none HF.out hX1
  | true =>
    cases d with
    | false =>
      have HF : Hid (FTxt m c n [] 2) := by
        unfold Hid FTxt
        rw [HV.out, HD.out]
        exact ⟨rfl, rfl⟩
      rw [show codeT true false = 2 from rfl]
      go_wp2
      go_ret2
      exact TxRes.none HF.out hX1
    | true =>
      rw [show codeT true true = 0 from rfl]
      have hmc : machOk m = true ∧ confB m c = true := by
        have := HV.out
        simpa [Bool.and_eq_true] using this
      have hn := inB_iff.1 HD.out
      have HM := Lib.hid hmc.1
      have HC := Lib.hid hmc.2
      clear hmc
      have HF0 : Hid (∀ L kk, (if (startF m c).2 = 0 then ∃ s, foldOf m = some s ∧ TRun (foldM m s) (startF m c).1 n.toNat (txtF m) L kk else L = [] ∧ kk = (startF m c).2) → FTxt m c n L kk) := by
        unfold Hid
        intro L kk h
        unfold FTxt
        rw [HV.out, HD.out]
        exact h
      obtain ⟨⟨⟨sq, sl, sr⟩, sc⟩, hst⟩ : ∃ R, startF m c = R := ⟨_, rfl⟩
      have HST := Lib.hid hst
      have hFC := FoldConfig_c m c _ _ _ w1 HM.out HC.out (hr.ext hX1) (hl.ext hX1) (hq.ext hX1)
      rw [hst] at hFC HF0
      simp only at HF0
      clear hst hTC hV
      go_wp2_with fail
      refine hFC.mono ?_
      rintro e w2 ⟨lv2, rv2, rfl, ol2, or2, ap2, hx2⟩
      simp only at ol2 or2
      obtain ⟨A2, k2, rfl, _, _⟩ := ol2.ints.form
      obtain ⟨B2, j2, rfl, _, _⟩ := or2.ints.form
      by_cases hs0 : sc = 0
      · subst hs0
        obtain ⟨W2, hW2⟩ : ∃ W2, W2 = w2.alloc (.cells #[.int .i64 sq, .slice A2 sl.length k2, .slice B2 sr.length j2] 37) := ⟨_, rfl⟩
        have hX2 : Ext w2 W2 := by rw [hW2]; exact Ext.alloc _ _
        have bS : Blk W2 w2.heap.size 37 #[.int .i64 sq, .slice A2 sl.length k2, .slice B2 sr.length j2] := by rw [hW2]; exact Blk.new _ _ _ _ rfl
        obtain ⟨s, hs, hcf⟩ := startF_some (show (startF m c).2 = 0 by rw [HST.out])
        rw [HST.out] at hcf
        have hE2 := hx2.trans hX2
        have hX3 := hX1.trans hE2
        have hFo := folded_c (.agg #[.int .i64 m.sy, .int .i64 m.st, .slice Am m.rules.length cm]) m W2 ⟨_, rfl, hr.ext hX3⟩ HM.out
        have m0 := hE2.cell m0
        have m1 := hE2.cell m1
        have m2 := hE2.cell m2
        rw [hW2] at m0 m1 m2
        clear c0 c1 c2
        go_wp2_with fail
        try rw [← hW2]
        clear hW2 m0 m1 m2
        refine hFo.mono ?_
        rintro e w3 ⟨hres, hx3⟩
        rcases hres with ⟨hn0, _⟩ | ⟨s', bx, bm, rv3, pv3, hs', rfl, hpl, hok, l1, l2⟩
        · rw [hs] at hn0; cases hn0
        · rw [hs] at hs'
          injection hs' with hs'
          subst hs'
          obtain ⟨Ar, cr, rfl, _, _⟩ := hpl.rules.rules.form
          obtain ⟨W3, hW3⟩ : ∃ W3, W3 = w3.alloc (.cells #[.pointer (some ⟨bx, 0, none⟩)] 68) := ⟨_, rfl⟩
          have hXa : Ext w3 W3 := by rw [hW3]; exact Ext.alloc _ _
          have hXd := hXa.trans (Ext.drew W3)
          have bP : Blk W3.drew w3.heap.size 68 #[.pointer (some ⟨bx, 0, none⟩)] := by rw [hW3]; exact Blk.new _ _ _ _ rfl
          have HPL := hpl.ext hXd
          have hE4 := hE2.trans (hx3.trans hXd)
          have hX4 := hX1.trans hE4
          have bS4 := bS.ext (hx3.trans hXd)
          have bM4 := bM1.ext hE4
          have hok1 := (fold_ok HM.out hs).1
          have hHM := HM.out
          have hT4 := hT.ext hX4
          have hENV : FtEnv W3.drew k w3.heap.size m s := ⟨⟨_, bM4⟩, bx, _, _, _, _, bP, HPL⟩
          have hRT : Calls Tryz.prog 31 #[.agg #[.int .i64 (m.sy + 1), .int .i64 s.1.length, .slice Ar s.2.length cr], .agg #[.int .i64 sq, .slice A2 sl.length k2, .slice B2 sr.length j2], .int .i64 (n.toNat : Int), fnT k w3.heap.size] W3.drew (TxtOut W3.drew (foldM m s) ⟨sq, sl, sr⟩ n.toNat (txtF m)) :=
            runTexts_c W3.drew (foldM m s) ⟨sq, sl, sr⟩ _ _ _ n.toNat k w3.heap.size (txtF m) (by omega) hok1 hcf HPL.rules.rules (ol2.ext (hX2.trans (hx3.trans hXd))).ints (or2.ext (hX2.trans (hx3.trans hXd))).ints ol2.flat or2.flat
              (fun i v1 v2 X hrun hx h1 h2 f1 f2 => foldText_c k w3.heap.size m s _ v1 v2 X hHM hs (hENV.ext hx) (run_conf hHM hs hcf hrun) h1 h2 f1 f2 (hT4.ext hx))
          rw [Int.toNat_of_nonneg hn.1] at hRT
          have HS := Lib.hid hs
          have p0 := bP.cell 0
          have t0 := HPL.blk.cell 0
          have t1 := HPL.blk.cell 1
          have t2 := HPL.blk.cell 2
          have g0 := bS4.cell 0
          have g1 := bS4.cell 1
          have g2 := bS4.cell 2
          simp only [List.getElem?_toArray, List.getElem?_cons_zero, List.getElem?_cons_succ] at p0 t0 t1 t2 g0 g1 g2
          have hXs : w.heap.size ≤ W3.drew.heap.size := hX4.size
          clear hs hok1 hENV hFo hFC hcf
          go_wp2_with fail
          try rw [← hW3]
          clear hW3
          refine wp_region_ordT 10 (readsT [0, 1, 2, 3, 4, 5] (.stir 6 (.stir 7 (readsT [8, 9] .done)))) (by kernel_rfl) (by kernel_rfl) (fun _ _ _ _ _ h => h) ?_
          simp only [readsT]
          iterate 6 (refine wpOrdT_read (v := ?_) (by rfl) (Or.inl ⟨by rfl, fun x hx => ?_⟩) ?_; rotate_left; (· have a0 := hx.cell p0; have a1 := hx.cell t0; have a2 := hx.cell t1; have a3 := hx.cell t2; have a4 := hx.cell g0; have a5 := hx.cell g1; have a6 := hx.cell g2; go_simp; try with_reducible rfl); try simp only [Act.put, List.setIfInBounds_toArray, List.set_cons_zero, List.set_cons_succ])
          refine wpOrdT_keep (by rfl) (fun K hK => ?_)
          go_simp
          refine hK _ _ (Ext.refl _) ?_
          clear hK K
          refine wpOrdT_keep (by rfl) (fun K hK => ?_)
          go_simp
          go_at_call 31
          refine hRT.mono ?_
          rintro e w5 ⟨L, kk, tv, rfl, ho5, hTR, hx5⟩
          have HTR := Lib.hid hTR
          clear hTR
          obtain ⟨A5, c5, rfl, _, _, _⟩ := (ownsRow_row ho5).form
          refine hK _ _ hx5 ?_
          clear hK K
          iterate 2 (refine wpOrdT_read (v := ?_) (by rfl) (Or.inl ⟨by rfl, fun x hx => ?_⟩) ?_; rotate_left; (· go_simp; try with_reducible rfl); try simp only [Act.put, List.setIfInBounds_toArray, List.set_cons_zero, List.set_cons_succ])
          refine wpOrdT_done ?_
          try simp only [List.drop_succ_cons, List.drop_zero]
          have HFin : Hid (TxRes w (FTxt m c n) (.returned (.tuple #[.slice A5 L.length c5, .int .i64 kk])) w5) := ⟨L, kk, _, rfl, ownsRow_base ho5 hXs, HF0.out L kk (by (first | rw [if_pos trivial] | rw [if_pos rfl]); exact ⟨s, HS.out, HTR.out⟩), hX4.trans hx5⟩
          clear ho5
          go_wp2
          go_ret2
          exact HFin.out
      · have HF : Hid (FTxt m c n [] sc) := Lib.hid (HF0.out [] sc (by rw [if_neg hs0]; exact ⟨rfl, rfl⟩))
        have hne : (sc != 0) = true := by simpa using hs0
        have hX3 := (hX1.trans hx2).trans (Ext.alloc w2 (.cells #[.int .i64 sq, .slice A2 sl.length k2, .slice B2 sr.length j2] 37))
        clear HF0 hs0
        go_wp2
        go_ret2
        exact TxRes.none HF.out hX3
end Go.Proofs.YtjcfmlecfjmcgaaGreatDoor
end
