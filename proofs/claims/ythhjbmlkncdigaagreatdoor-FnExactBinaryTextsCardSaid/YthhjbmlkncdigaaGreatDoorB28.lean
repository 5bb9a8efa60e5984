/- A region that draws its order, within a round of a range over a function: walked along a tree, as elsewhere. No condition.
Contract of the program's texts of a run, with the closure of BinaryTexts. The machine is valid and the configuration is one of its.
Words for a list of texts and a code, as a call gives them. -/
import Derived.Test.YthhjbmlkncdigaaGreatDoorB15
import Derived.OrdersIn
import Derived.RangeFuncCalls
import Derived.AtR
import Derived.Test.YthhjbmlkncdigaaGreatDoorB20
section
set_option linter.unusedSimpArgs false
set_option linter.unusedVariables false
namespace Go.Proofs.YthhjbmlkncdigaaGreatDoor
open Go Go.RowKit
theorem opIn_round {l n : Nat} {P : Program} {o : Oper} {a : Act} {w : World} {K : Act → World → Prop} {Q : Exit → Act → World → Prop} (ho : ∀ c, o.op ≠ .defer c) (h : o.wp P a w K Q) : o.wpIn (Fence.wide.inRound l) n P a w K Q := by
  refine ⟨fun _ _ => trivial, ?_⟩
  rw [Oper.semAt_eq _ _ _ ho]
  unfold Oper.wp at h
  have hd : ¬ ((Fence.wide.inRound l).depth.isSome = true) := by simp [Fence.wide]
  generalize (execOp a.eval o).run P w = r at h
  cases r with
  | ok x w' =>
    cases x with
    | value v => exact h
    | skip => exact h
    | defer d => exact h
    | enter f args => exact ⟨fun e => absurd e hd, CallsIn.inRound l (callsIn_wide.2 h)⟩
    | row row args => exact ⟨fun e => absurd e hd, fun c cs _ => let ⟨v, w', r, s⟩ := h c cs; ⟨v, w', r, stepsIn_wide.2 s⟩⟩
    | _ => exact h.elim
  | halt x w' => cases x <;> first | exact h | exact h.elim
def noDefer (o : Oper) : Bool := match o.op with | .defer _ => false | _ => true
theorem noDefer_spec {o : Oper} (h : noDefer o = true) : ∀ c, o.op ≠ .defer c := by
  intro c e
  unfold noDefer at h
  rw [e] at h
  cases h
theorem anyIn_round {l n : Nat} {P : Program} {md : Region.Mode} {ops : Array Oper} {Q : Exit → Act → World → Prop} (hq : ¬ LetsOut Q) (hd : ∀ (i : Nat) o, ops[i]? = some o → noDefer o = true) :
    ∀ (fuel : Nat) (listed : Array Bool) (a : Act) (w : World), wpAny P md ops Q fuel listed a w → wpAnyIn (Fence.wide.inRound l) n P md ops Q fuel listed a w := by
  intro fuel
  induction fuel with
  | zero => intro listed a w h; exact h
  | succ fuel ih =>
    intro listed a w h
    refine ⟨h.1, fun i hi => ?_⟩
    have h2 := h.2 i hi
    unfold wpOp at h2
    unfold wpOpIn
    cases ho : ops[i]? with
    | none => rw [ho] at h2; exact ih _ _ _ h2
    | some o =>
      rw [ho] at h2
      dsimp only at h2 ⊢
      split
      · rename_i hw
        rw [if_pos hw] at h2
        rcases h2 with h2 | ⟨_, h2⟩
        · exact opIn_round (noDefer_spec (hd i o ho)) (Oper.wp_mono (fun a w => ih _ a w) h2)
        · exact absurd h2 hq
      · rename_i hw
        rw [if_neg hw] at h2
        exact ⟨fun _ _ => trivial, ih _ _ _ h2⟩
variable {P : Program} {Q : Exit → Act → World → Prop}
/-- As wp_region_ordT, within a round. -/
theorem wpIn_region_ordT {m k : Nat} {id : Nat} {a : Act} {w : World} {l : List Oper} (n : Nat) (tr : OrdT) (hm : P.follows .mixedOrders = true) (hB : ordTreeB .any l.toArray n tr = true) (hD : l.all noDefer = true) (hq : ¬ LetsOut Q)
    (hQ : ∀ c t t' d w, Q (.panic c) ⟨t, d⟩ w → Q (.panic c) ⟨t', d⟩ w)
    (h : wpOrdT P l.toArray Q l (fun a' w' => wpList P l.toArray Q (l.drop n) a' w') tr (Ext w.drew) a w.drew) : (Code.region id l.toArray true).wpIn (Fence.wide.inRound m) k P Q a w := by
  simp only [ordTreeB, Bool.and_eq_true, decide_eq_true_eq] at hB
  obtain ⟨⟨⟨⟨hsel, hn⟩, hs⟩, hc⟩, hord⟩ := hB
  have hn' : n < l.length := by simpa using hn
  have hdl : (l.drop n).length = l.toArray.size - n := by simp
  have inv0 : HeadInv .any l.toArray n (Array.replicate l.toArray.size false) :=
    ⟨by simp, fun j oj _ hl => (by rw [getD_replicate_false] at hl; cases hl), fun t _ ht => _root_.Go.getD_in (by simpa using ht) (getD_replicate_false _ _)⟩
  have H := wpAnyN_ordT (md := .any) (g := l.toArray.size - n) (Lq := fun a' w' => wpList P l.toArray Q (l.drop n) a' w') rfl hsel hQ hs hc hn n tr (Ext w.drew) _ a w.drew inv0 hord (Ext.refl _) h
  refine wpIn_region_any hm (anyIn_round hq (fun i o ho => ?_) _ _ _ _ ?_)
  · have : o ∈ l := by simpa using Array.mem_of_getElem? ho
    exact List.all_eq_true.1 hD o this
  · have := wpAny_of_N (Q := Q) (g := l.toArray.size - n) (fun listed a' w' hL => by
      have := wpAny_of_seq (md := .any) (Q' := Q) (l.drop n) n listed a' w' (fun j => by simp [List.getElem?_drop]) (by rw [hdl]; exact hL.1) hL.2
      rwa [hdl] at this) _ _ _ _ _ H
    rw [show n + (l.toArray.size - n) = l.toArray.size by simp; omega] at this
    exact this
end Go.Proofs.YthhjbmlkncdigaaGreatDoor
end
section
set_option linter.unusedSimpArgs false
set_option linter.unusedVariables false
namespace Go.Proofs.YthhjbmlkncdigaaGreatDoor
open Go Go.RowKit Go.Proofs Go.Shelf
attribute [local go_sem] Oper.semAt_some
set_option maxHeartbeats 400000
theorem strInfoBi : (Tryz.prog.info? 9).map (fun i => (i.zero, i.size, i.bytes)) = some (some (.string ⟨#[]⟩), 1, 16) := by kernel_rfl
/-- The closure as a value. -/
abbrev fnBi (bv bp : Nat) : Value := .func (.func 33) #[] #[.pointer (some ⟨bv, 0, none⟩), .pointer (some ⟨bp, 0, none⟩)]
/-- What the closure must do. -/
def TxtFnBi (w : World) (bv bp : Nat) (M : MachD) (c : ConfD) (f : ConfD → List UInt8) : Prop :=
  ∀ (i : Nat) (v1 v2 : Value) (W : World), RunsTo M c i → Ext w W → Ints W v1 (cfgI M c i).l → Ints W v2 (cfgI M c i).r → Flat v1 → Flat v2 →
    Calls Tryz.prog 33 #[.agg #[.int .i64 (cfgI M c i).q, v1, v2], .pointer (some ⟨bv, 0, none⟩), .pointer (some ⟨bp, 0, none⟩)] W fun e w' => e = .returned (.string (bsS (f (cfgI M c i)))) ∧ Ext W w'
set_option maxRecDepth 100000 in
set_option maxHeartbeats 4000000 in
theorem runTextsBi_c (w : World) (M : MachD) (c : ConfD) (mv lv rv : Value) (N bv bp : Nat) (f : ConfD → List UInt8) (hN : N ≤ 100000) (hm : machOk M = true) (hc : confB M c = true) (hr : Rules w mv M.rules) (hl : Ints w lv c.l) (hq : Ints w rv c.r) (f1 : Flat lv) (f2 : Flat rv) (hF : TxtFnBi w bv bp M c f) :
    Calls Tryz.prog 32 #[.agg #[.int .i64 M.sy, .int .i64 M.st, mv], .agg #[.int .i64 c.q, lv, rv], .int .i64 N, fnBi bv bp] w (TxtOut w M c N f) := by
  obtain ⟨Am, cm, rfl, _, _⟩ := hr.form
  obtain ⟨Al, cl, rfl, _, _⟩ := hl.form
  obtain ⟨Ar, cr, rfl, _, _⟩ := hq.form
  obtain ⟨hg, hfit, ht⟩ := conf_good hc
  have hfi : fitI c = true := by simp [fitI, hfit]
  obtain ⟨k, hk⟩ : ∃ k, w.heap.size = k := ⟨_, rfl⟩
  obtain ⟨W, hW⟩ : ∃ W, ((((w.alloc (.cells #[.int .i64 M.sy, .int .i64 M.st, .slice Am M.rules.length cm] 35)).alloc (.cells #[.int .i64 c.q, .slice Al c.l.length cl, .slice Ar c.r.length cr] 37)).alloc (.cells #[fnBi bv bp] 84)).alloc (.cells #[.slice none 0 0] 30)).alloc (.cells #[.int .i64 0] 2) = W := ⟨_, rfl⟩
  have hX : Ext w W := by rw [← hW]; exact ((((Ext.alloc _ _).trans (Ext.alloc _ _)).trans (Ext.alloc _ _)).trans (Ext.alloc _ _)).trans (Ext.alloc _ _)
  have bM : Blk W k 35 #[.int .i64 M.sy, .int .i64 M.st, .slice Am M.rules.length cm] := by rw [← hW]; exact ((((Blk.new _ _ _ _ hk).alloc _).alloc _).alloc _).alloc _
  have bC : Blk W (k + 1) 37 #[.int .i64 c.q, .slice Al c.l.length cl, .slice Ar c.r.length cr] := by rw [← hW]; exact (((Blk.new _ _ _ _ (by simp [hk])).alloc _).alloc _).alloc _
  have bF : Blk W (k + 2) 84 #[fnBi bv bp] := by rw [← hW]; exact ((Blk.new _ _ _ _ (by simp [hk])).alloc _).alloc _
  have bR : Blk W (k + 3) 30 #[.slice none 0 0] := by rw [← hW]; exact (Blk.new _ _ _ _ (by simp [hk])).alloc _
  have bE : Blk W (k + 4) 2 #[.int .i64 0] := by rw [← hW]; exact Blk.new _ _ _ _ (by simp [hk])
  have hz : W.heap.size = k + 5 := by rw [← hW]; simp [hk]
  have m0 := bM.cell 0
  have m1 := bM.cell 1
  have m2 := bM.cell 2
  have c0 := bC.cell 0
  have c1 := bC.cell 1
  have c2 := bC.cell 2
  simp only [List.getElem?_toArray, List.getElem?_cons_zero, List.getElem?_cons_succ] at m0 m1 m2 c0 c1 c2
  have hRO := runnerOf_c W M c _ _ _ (hr.ext hX) (hl.ext hX) (hq.ext hX) f1 f2 (by omega) (by omega)
  refine (callsIn_wide (n := 8)).1 ?_
  refine callsIn_of_wp_marks Tryz.func32 rfl trivial ?_ rfl
  simp only [Tryz.ntmps32, List.size_toArray, List.length_cons, List.length_nil, Nat.reduceAdd, Nat.reduceSub, Array.replicate_succ, Array.replicate_zero, List.push_toArray, List.append_toArray, List.nil_append, List.cons_append]
  gi_wp2_with fail
  try rw [hW]
  try rw [hk]
  clear hW
  refine ⟨trivial, (callsIn_wide.2 hRO).mono ?_⟩
  rintro e w1 ⟨b, lv1, rv1, rfl, hR1⟩
  have hRw := hR1.lower hX hr
  have hX1 : Ext W w1 := hR1.ext0
  have hb1 := hR1.low
  rw [hz] at hb1
  have hapk : ∀ i, i < k + 5 → Apt b i lv1 rv1 := fun i hi => ⟨by omega, fun e => by have := (hR1.l.lt i e).1; omega, fun e => by have := (hR1.r.lt i e).1; omega⟩
  have haph : ∀ i, w1.heap.size ≤ i → Apt b i lv1 rv1 := fun i hi => ⟨by have := hR1.blk.lt; omega, fun e => by have := (hR1.l.lt i e).2; omega, fun e => by have := (hR1.r.lt i e).2; omega⟩
  obtain ⟨h, hh⟩ : ∃ h, w1.heap.size = h := ⟨_, rfl⟩
  rw [hh] at haph
  have hkh : k + 5 ≤ h := by rw [← hh, ← hz]; exact hX1.size
  gi_wp2_with (refine ⟨trivial, ?_⟩; gi_at_call 66; refine (callsIn_wide.2 (steps_c _ (N : Int) _ ⟨_, rfl⟩)).mono ?_; rintro e w' ⟨rfl, rfl⟩)
  obtain ⟨W4, hW4⟩ : ∃ W4, W4 = ((((w1.alloc (.cells #[] 9)).alloc (.cells #[.pointer (some ⟨b, 0, none⟩)] 112)).alloc (.cells #[.slice (some ⟨h, 0, none⟩) 0 0] 30)).alloc (.cells #[.pointer (some ⟨b, 0, none⟩)] 112)).alloc (.cells #[.int .i64 (N : Int)] 2) := ⟨_, rfl⟩
  have hX4 : Ext w1 W4 := by rw [hW4]; exact ((((Ext.alloc _ _).trans (Ext.alloc _ _)).trans (Ext.alloc _ _)).trans (Ext.alloc _ _)).trans (Ext.alloc _ _)
  have hR4 := hRw.ext hX4
  have hB : BoxR W4 b (h + 1 + 1 + 1 + 1) (h + 1 + 1 + 1) N lv1 rv1 := by
    have a5 := haph (h + 1 + 1 + 1 + 1) (by omega)
    have a4 := haph (h + 1 + 1 + 1) (by omega)
    refine ⟨?_, ?_, a5.nl, a5.nr, a4.nl, a4.nr, a5.nb, a4.nb⟩
    · rw [hW4]; exact Blk.new _ _ _ _ (by simp [hh])
    · rw [hW4]; exact (Blk.new _ _ _ _ (by simp [hh])).alloc _
  have hV4 : VarT W4 k h b (fnBi bv bp) 0 (.slice (some ⟨h, 0, none⟩) 0 0) := by
    refine ⟨(bF.ext hX1).ext hX4, (bR.ext hX1).ext hX4, (bE.ext hX1).ext hX4, ?_, ?_⟩
    · rw [hW4]; exact (((Blk.new _ _ _ _ (by simp [hh])).alloc _).alloc _).alloc _
    · rw [hW4]; exact ((Blk.new _ _ _ _ (by simp [hh])).alloc _).alloc _
  have ho4 : W4.ownsRow h 9 1 (.slice (some ⟨h, 0, none⟩) 0 0) 0 (svB (firstT M c f 0)) := by
    rw [hW4, ← hh]
    exact ownsRow_ext (World.ownsRow_made (base := w1.heap.size) (e := 9) (size := 1) w1 #[] 0 (by simp) (by unfold maxLen; omega) (by simp)) ((((Ext.alloc _ _).trans (Ext.alloc _ _)).trans (Ext.alloc _ _)).trans (Ext.alloc _ _))
  have hA4 : AptV b k h lv1 rv1 := fun i hi => by
    rcases hi with e | e | e | e | e
    · exact hapk i (by omega)
    · exact hapk i (by omega)
    · exact hapk i (by omega)
    · exact haph i (by omega)
    · exact haph i (by omega)
  have hT4 : ∀ g, (Value.slice (some ⟨h, 0, none⟩) 0 0).ownBlock = some g → Apt b g lv1 rv1 ∧ g ≠ h + 3 ∧ g ≠ h + 4 := fun g hg => by
    simp [Value.ownBlock] at hg
    subst hg
    exact ⟨haph _ (Nat.le_refl _), by omega, by omega⟩
  rw [← hW4]
  have hsz : W4.heap.size = h + 1 + 1 + 1 + 1 + 1 := by rw [hW4]; simp [hh]
  clear hW4
  have hlow : w.heap.size ≤ W4.heap.size := hR4.ext0.size
  have hwk : w.heap.size = k := hk
  clear hRO m0 m1 m2 c0 c1 c2 bM bC bF bR bE
  have h1 : 1 ≤ 8 := by omega
  refine wpIn_rangeFunc_W rfl h1 (gf := 98) (lb := #[.pointer (some ⟨h + 1 + 1 + 1 + 1, 0, none⟩), .pointer (some ⟨h + 1 + 1 + 1, 0, none⟩)]) rfl trivial (enters_of Tryz.func98 (by kernel_rfl) rfl)
    (steps1_w (8 - 1) (by omega) w W4 b (h + 1 + 1 + 1 + 1) (h + 1 + 1 + 1) M c (.slice Am M.rules.length cm) lv1 rv1 N hN hm hg hfi hR4 hB) (fun h k => KpR.trans h k) (fun W l o o' hl h1 h2 _ => KpR.turn W l o o' (by omega) (by omega) (by omega) h1 h2) (Below.refl _ _) (fun _ => rfl)
    (fun A B h => WrR.keeps h) (IFt w b M (.slice Am M.rules.length cm) k h (fnBi bv bp) c f) (IxFt w b k h (fnBi bv bp)) (iFt_own hlow) (ixFt_own hlow) iFt_w (stR_own hlow) (sR_own hlow) (spR_own hlow)
    ⟨c, lv1, rv1, _, hR4, hA4, hV4, ho4, hT4, rfl, by omega⟩
    (fun x => { tmps := #[.agg #[.int .i64 M.sy, .int .i64 M.st, .slice Am M.rules.length cm], .agg #[.int .i64 c.q, .slice Al c.l.length cl, .slice Ar c.r.length cr], .int .i64 (N : Int), fnBi bv bp, .pointer (some ⟨k, 0, none⟩), .pointer (some ⟨k + 1, 0, none⟩), undef, .pointer (some ⟨k + 1 + 1, 0, none⟩), .pointer (some ⟨k + 1 + 1 + 1, 0, none⟩), .pointer (some ⟨k + 1 + 1 + 1 + 1, 0, none⟩), .pointer (some ⟨h + 1, 0, none⟩), .pointer (some ⟨h + 1 + 1, 0, none⟩), undef, .bool x.2, .agg #[.int .i64 M.sy, .int .i64 M.st, .slice Am M.rules.length cm], .agg #[.int .i64 c.q, .slice Al c.l.length cl, .slice Ar c.r.length cr], .pointer (some ⟨b, 0, none⟩), .slice (some ⟨h, 0, none⟩) 0 0, .pointer (some ⟨b, 0, none⟩), .int .i64 (N : Int), .func (.func 98) #[] #[.pointer (some ⟨h + 1 + 1 + 1 + 1, 0, none⟩), .pointer (some ⟨h + 1 + 1 + 1, 0, none⟩)], .int .i64 x.1, .bool x.2, undef, undef, undef, undef, undef, undef, undef, undef, undef, undef], defers := [] }) ?assign ?body ?done ?stop
  case assign =>
    intro l x W K hK
    gi_wp2
    exact hK
  case body =>
    obtain ⟨i0, hi, hz0, hz1, hz2⟩ := info_parts strInfoBi
    rintro l pre ⟨n, room⟩ W' ⟨d, l1, r1, tv, hR1, hA1, hV1, hoT, hT1, hpre, hzW⟩ ⟨i, l2, r2, hR2, hpl, hcase⟩ _
    obtain ⟨rfl, rfl⟩ := hR2.vals hR1
    clear hR1
    have hbl := hR2.blk.lt
    cases room with
    | true =>
      have hc2 : n = (i : Int) ∧ RunsTo M c i ∧ i ≤ N := by
        rcases hcase with ⟨e, h1, h2⟩ | ⟨e, _⟩
        · simp at e; exact ⟨e, h1, h2⟩
        · simp at e
      clear hcase
      obtain ⟨rfl, hRT, hiN⟩ := hc2
      have HRT := Lib.hid hRT
      obtain ⟨hf1, hf2⟩ := fit_both (hRT.fit i (Nat.le_refl _))
      rw [hpl] at hoT hpre
      have b0 := hV1.t.cell 0
      have b1 := hV1.f.cell 0
      have b2 := hV1.p.cell 0
      simp only [List.getElem?_toArray, List.getElem?_cons_zero] at b0 b1 b2
      have b0 := (Ext.drew W').cell b0
      have b1 := (Ext.drew W').cell b1
      have b2 := (Ext.drew W').cell b2
      obtain ⟨At, ct, rfl, hct, hct2, _⟩ := (ownsRow_row hoT).form
      have hCF := config_c w W'.drew b M (cfgI M c i) _ _ _ (hR2.ext (Ext.drew W')) (by omega) (by omega)
      have hXw : Ext w W'.drew := hR2.ext0.trans (Ext.drew W')
      obtain ⟨s, hs⟩ : ∃ s, bsS (f (cfgI M c i)) = s := ⟨_, rfl⟩
      have HS := Lib.hid hs
      have HSV := Lib.hid (firstT_svB M c f i)
      rw [hs] at HSV
      have hFi : ∀ (v1 v2 : Value) (X : World), Ext w X → Ints X v1 (cfgI M c i).l → Ints X v2 (cfgI M c i).r → Flat v1 → Flat v2 →
        Calls Tryz.prog 33 #[.agg #[.int .i64 (cfgI M c i).q, v1, v2], .pointer (some ⟨bv, 0, none⟩), .pointer (some ⟨bp, 0, none⟩)] X fun e w' => e = .returned (.string s) ∧ Ext X w' := fun v1 v2 X hx h1 h2 f1 f2 => by rw [← hs]; exact hF i v1 v2 X HRT.out hx h1 h2 f1 f2
      have HPRE : Hid (pre ++ [((i : Int), true)] = roundsT (i + 1)) := by unfold Hid; rw [roundsT_succ, ← hpre]
      clear hs hpre hRT
      gi_wp2_with fail
      refine wpIn_region_ordT 6 (readsT [0, 1, 2] (.stir 3 (.stir 4 (.stir 5 .done)))) (by kernel_rfl) (by kernel_rfl) (by kernel_rfl) (by rintro ⟨_, _, hh⟩; exact hh) (fun _ _ _ _ _ h => h) ?_
      simp only [readsT]
      iterate 3 (refine wpOrdT_read (v := ?_) (by rfl) (Or.inl ⟨by rfl, fun x hx => ?_⟩) ?_; rotate_left; (· have a1 := hx.cell b0; have a2 := hx.cell b1; have a3 := hx.cell b2; go_simp; try with_reducible rfl); try simp only [Act.put, List.setIfInBounds_toArray, List.set_cons_zero, List.set_cons_succ])
      refine wpOrdT_keep (by rfl) (fun K hK => ?_)
      go_simp
      go_at_call 67
      refine hCF.mono ?_
      rintro e w2 ⟨lv2, rv2, rfl, ol2, or2, _, hx2⟩
      refine hK _ _ hx2 ?_
      clear hK K
      refine wpOrdT_keep (by rfl) (fun K hK => ?_)
      go_simp
      refine (hFi lv2 rv2 w2 (hXw.trans hx2) ol2.ints or2.ints ol2.flat or2.flat).mono ?_
      rintro e w3 ⟨rfl, hx3⟩
      refine hK _ _ (hx2.trans hx3) ?_
      clear hK K
      refine wpOrdT_keep (by rfl) (fun K hK => ?_)
      go_simp
      refine hK _ _ ((hx2.trans hx3).trans (Ext.alloc _ _)) ?_
      clear hK K
      refine wpOrdT_done ?_
      try simp only [List.drop_succ_cons, List.drop_zero]
      have hX3 : Ext W' w3 := ((Ext.drew W').trans hx2).trans hx3
      have hs3 := hX3.size
      clear hCF hFi b0 b1 b2 ol2 or2 hXw
      go_wp2_with (at_builtin; refine wpList_append_own_at _ rfl _ _ 30 rfl h 9 i0 (.string ⟨#[]⟩) 1 16 Tryz.underlying30 hi hz0 hz1 hz2 rfl (by decide) _ _ _ rfl ((ownsRow_ext hoT hX3).alloc _) ⟨w3.heap.size, 0, none⟩ 1 1 [.string s] rfl rfl ?c1 ?c2 ?c3 ?c4 ?c5 ?_)
      case c1 =>
        intro j u hj
        match j, hj with
        | 0, hj => simp at hj; subst hj; simp [Addr.add]
      case c2 => intro u hu; simp at hu; subst hu; rfl
      case c3 => unfold maxLen; omega
      case c4 => omega
      case c5 => simp; omega
      intro v' w4 hown' hgrow _ hat
      obtain ⟨Av, cv, rfl, _, _, _⟩ := (ownsRow_row hown').form
      have hXa : Ext W' (w3.alloc (.cells #[.string s] 9)) := hX3.trans (Ext.alloc _ _)
      have hoA := ownsRow_ext hoT hXa
      have hVa := hV1.ext hXa
      have V4 := hVa.kept hgrow (fun r e => .inr (hVa.row hoA r e))
      have hrow := fun r (e : (Value.slice At i ct).ownBlock = some r) => (⟨by have := (hoA.lt r e).1; omega, (hT1 r e).1⟩ : w.heap.size ≤ r ∧ Apt b r _ _)
      have hgw : w.heap.size ≤ h + 2 := by omega
      have ha2 := hA1 (h + 2) (.inr (.inr (.inr (.inr rfl))))
      have R4 := (hR2.ext hXa).row hgrow hrow
      have R5 := R4.apart (p := ⟨h + 2, 0, none⟩) ha2.nb ha2.nl ha2.nr hgw (.slice Av (i + 1) cv)
      have V5 := V4.setT hkh (.slice Av (i + 1) cv)
      have hlen' : (pre ++ [((i : Int), true)]).length = i + 1 := by rw [List.length_append, hpl]; rfl
      have hbox : ∀ j, j < W'.heap.size → some j ≠ (Value.slice At i ct).ownBlock → j ≠ h + 2 → (w4.setCell ⟨h + 2, 0, none⟩ (.slice Av (i + 1) cv)).heap[j]? = W'.heap[j]? := fun j hj hne hn2 =>
        (Below.heap_setCell _ _ _ _ hn2).trans ((hgrow.block j (Nat.lt_of_lt_of_le hj hXa.size) hne).trans (Below.block hXa j hj))
      have hsz5 : W'.heap.size ≤ (w4.setCell ⟨h + 2, 0, none⟩ (.slice Av (i + 1) cv)).heap.size := by
        have a1 := hXa.size
        have a2 := hgrow.size
        have a3 := (grownBy_setCell w4 ⟨h + 2, 0, none⟩ (.slice Av (i + 1) cv)).size
        omega
      have hK4 : KeepsOthers W' w4 := (show KeepsOthers W' _ from ⟨Ext.size hXa, fun k o hk ho => (Below.block hXa k (Array.getElem?_eq_some_iff.1 hk).1).trans hk⟩).trans (KeepsOthers.of_grownBy hgrow (fun j o hj hl => by
        rcases hoA.2 with ⟨e, _⟩ | ⟨g', cap, cur, e, _, hg', _⟩
        · rw [e] at hj; simp [Value.ownBlock] at hj
        · rw [e] at hj
          simp [Value.ownBlock] at hj
          subst hj
          rw [hg'] at hl
          cases hl
          rfl))
      have hl1 := fun g e => (hR2.l.lt g e).2
      have hr1 := fun g e => (hR2.r.lt g e).2
      have hX5s := hXa.size
      have HF : Hid (KeepsFrom (h + 1 + 1 + 1 + 1 + 1) W' (w4.setCell ⟨h + 2, 0, none⟩ (.slice Av (i + 1) cv)) ∧ KpR w b (h + 1 + 1 + 1 + 1) (h + 1 + 1 + 1) M (.slice Am M.rules.length cm) W' (w4.setCell ⟨h + 2, 0, none⟩ (.slice Av (i + 1) cv)) ∧ IFt w b M (.slice Am M.rules.length cm) k h (fnBi bv bp) c f (pre ++ [((i : Int), true)]) (w4.setCell ⟨h + 2, 0, none⟩ (.slice Av (i + 1) cv))) := by
        refine ⟨(hK4.trans (KeepsOthers.setCell _ _ _)).from _, kp_of hR2 (fun d' hd' => ((hd'.ext hXa).row hgrow hrow).apart (p := ⟨h + 2, 0, none⟩) ha2.nb ha2.nl ha2.nr hgw _) hsz5 (hbox _ (by omega) (fun e => (hT1 _ e.symm).2.2 rfl) (by omega)) (hbox _ (by omega) (fun e => (hT1 _ e.symm).2.1 rfl) (by omega)), _, _, _, _, R5, hA1, V5, ?_, ?_, ?_, Nat.le_trans hzW hsz5⟩
        · rw [hlen', HSV.out]
          exact ownsRow_far (p := ⟨h + 2, 0, none⟩) hown' (fun q hq e => blk_ne_row V4.t hown' (by decide) (by rw [hq, e])) (.slice Av (i + 1) cv)
        · intro g hg
          rcases hat with e | e
          · rw [e] at hg; exact hT1 g hg
          · rw [e] at hg
            simp at hg
            subst hg
            exact ⟨⟨by simp at hX5s ⊢; omega, fun e => by have := hl1 _ e; omega, fun e => by have := hr1 _ e; omega⟩, by simp; omega, by simp; omega⟩
        · rw [hlen']; exact HPRE.out
      have g0 := V4.t.cell 0
      have gf := V4.t.frozen 0
      simp only [List.getElem?_toArray, List.getElem?_cons_zero] at g0
      clear hown' hgrow hoA hoT hVa V5 R4 R5 hK4 hat hbox hrow HSV HPRE
      go_wp2
      exact HF.out
    | false =>
      have hFl : FullAt M c N i := by
        rcases hcase with ⟨e, _⟩ | ⟨e, h1⟩
        · simp at e
        · exact h1
      clear hcase hpre hpl
      have c0 := hV1.r.cell 0
      have c1 := hV1.e.cell 0
      have f0 := hV1.r.frozen 0
      have f1' := hV1.e.frozen 0
      simp only [List.getElem?_toArray, List.getElem?_cons_zero] at c0 c1
      have a3 := hA1 (k + 3) (.inr (.inl rfl))
      have a4 := hA1 (k + 4) (.inr (.inr (.inl rfl)))
      have hgw3 : w.heap.size ≤ k + 3 := by omega
      have hgw4 : w.heap.size ≤ k + 4 := by omega
      have V5 := (hV1.setR hkh).setE hkh 5
      obtain ⟨hK1, hR3⟩ := kp_set (bq := h + 1 + 1 + 1 + 1) (bp := h + 1 + 1 + 1) (p := ⟨k + 3, 0, none⟩) hR2 a3 hgw3 (by show h + 1 + 1 + 1 + 1 ≠ k + 3; omega) (by show h + 1 + 1 + 1 ≠ k + 3; omega) (.slice none 0 0)
      obtain ⟨hK2, hR4'⟩ := kp_set (bq := h + 1 + 1 + 1 + 1) (bp := h + 1 + 1 + 1) (p := ⟨k + 4, 0, none⟩) hR3 a4 hgw4 (by show h + 1 + 1 + 1 + 1 ≠ k + 4; omega) (by show h + 1 + 1 + 1 ≠ k + 4; omega) (.int .i64 5)
      have hEX := hR4'.ext0
      gi_wp2
      exact ⟨((KeepsOthers.setCell _ _ _).trans (KeepsOthers.setCell _ _ _)).from _, hK1.trans hK2, rfl, ⟨pre, (n, false), rfl, rfl⟩, ⟨_, V5⟩, hEX⟩
  case done =>
    rintro D xs W' hD ⟨i, l2, r2, p, hR2, hcase⟩ ⟨d, l1, r1, tv, hR1, hA1, hV1, hoT, hT1, hpre, hzW⟩ hK
    rcases hcase with ⟨e, hEnd⟩ | ⟨e, _⟩
    · obtain ⟨hxl, _⟩ := roundsT_last hpre e
      have HEND := Lib.hid hEnd
      clear hEnd
      rw [hxl] at hoT
      obtain ⟨At, ct, rfl, _, _, _⟩ := (ownsRow_row hoT).form
      have c0 := hV1.t.cell 0
      have r0 := hV1.r.cell 0
      have e0 := hV1.e.cell 0
      have rf := hV1.r.frozen 0
      have ef := hV1.e.frozen 0
      simp only [List.getElem?_toArray, List.getElem?_cons_zero] at c0 r0 e0
      have hEX := hR2.ext0
      have hT3 : ∀ g, (Value.slice At (i + 1) ct).ownBlock = some g → g ≠ k + 3 ∧ g ≠ k + 4 := fun g hg => ⟨(hV1.row hoT g hg).2.1, (hV1.row hoT g hg).2.2.1⟩
      have o5 := ownsRow_far (p := ⟨k + 4, 0, none⟩) (ownsRow_far (p := ⟨k + 3, 0, none⟩) hoT (fun g hg => (hT3 g hg).1) (.slice At (i + 1) ct)) (fun g hg => (hT3 g hg).2) (.int .i64 0)
      have E5 := (hEX.setCell (p := ⟨k + 3, 0, none⟩) (by show w.heap.size ≤ k + 3; omega) (.slice At (i + 1) ct)).setCell (p := ⟨k + 4, 0, none⟩) (by show w.heap.size ≤ k + 4; omega) (.int .i64 0)
      have B3 := (hV1.r.set_ 0 (.slice At (i + 1) ct)).far (p := ⟨k + 4, 0, none⟩) (by show k + 3 ≠ k + 4; omega) (.int .i64 0)
      have B4 := (hV1.e.far (p := ⟨k + 3, 0, none⟩) (by show k + 4 ≠ k + 3; omega) (.slice At (i + 1) ct)).set_ 0 (.int .i64 0)
      have K7 := (KeepsOthers.setCell (W'.setCell ⟨k + 3, 0, none⟩ (.slice At (i + 1) ct)) ⟨k + 4, 0, none⟩ (.int .i64 0)).same D _ ((KeepsOthers.setCell W' ⟨k + 3, 0, none⟩ (.slice At (i + 1) ct)).same D _ hK rfl) rfl
      have HAll := Lib.hid (And.intro o5 (And.intro E5 (And.intro B3 (And.intro B4 K7))))
      clear o5 E5 B3 B4 K7 hT3 hoT
      gi_wp2
      obtain ⟨o5, E5, B3, B4, K7⟩ := HAll.out
      refine ⟨by simp, .inl ⟨_, _, rfl, run_takeDeferred K7, ?_⟩⟩
      have hgr := grownBy_putObj' ((W'.setCell ⟨k + 3, 0, none⟩ (.slice At (i + 1) ct)).setCell ⟨k + 4, 0, none⟩ (.int .i64 0)) D (.deferred none)
      have e3 := (B3.kept hgr (fun e => by injection e with e; omega)).cell 0
      have e4 := (B4.kept hgr (fun e => by injection e with e; omega)).cell 0
      have o6 := own_same o5 (fun g hgl => hgr.block g (o5.lt g hgl).2 (fun e => by injection e with e; subst e; exact own_not_cells o5 hgl ⟨_, K7, rfl⟩))
      have E6 := E5.grown hgr (fun r e => by cases e; omega)
      have hln := firstT_length M c f (i + 1)
      refine ⟨.tuple #[.slice At (i + 1) ct, .int .i64 0], by simp [results, Tryz.f32, go_sem, e3, e4], firstT M c f (i + 1), 0, _, rfl, ?_, .inl ⟨i, HEND.out, rfl, rfl⟩, E6⟩
      rw [hln]
      exact ownsRow_base o6 (by omega)
    · have := (roundsT_last hpre e).2
      cases this
  case stop =>
    rintro D cd pre W' hD ⟨i, l2, r2, p, hR2, hcase⟩ ⟨rfl, ⟨p', x, hpx, hx2⟩, ⟨tv, hV1⟩, hE⟩ hK
    rcases hcase with ⟨rfl, _⟩ | ⟨rfl, hFull⟩
    · have := List.append_inj_right' hpx rfl
      simp at this
      rw [← this] at hx2
      simp at hx2
    · have r0 := hV1.r.cell 0
      have e0 := hV1.e.cell 0
      simp only [List.getElem?_toArray, List.getElem?_cons_zero] at r0 e0
      have HFL := Lib.hid hFull
      clear hFull
      gi_wp2
      refine ⟨by simp, .inl ⟨_, _, rfl, run_takeDeferred hK, ?_⟩⟩
      have hgr := grownBy_putObj' W' D (.deferred none)
      have e3 := (hV1.r.kept hgr (fun e => by injection e with e; omega)).cell 0
      have e4 := (hV1.e.kept hgr (fun e => by injection e with e; omega)).cell 0
      refine ⟨.tuple #[.slice none 0 0, .int .i64 5], by simp [results, Tryz.f32, go_sem, e3, e4], [], 5, _, rfl, World.ownsRow_nil .., .inr ⟨⟨i, HFL.out⟩, rfl, rfl⟩, hE.grown hgr (fun r e => by cases e; omega)⟩
end Go.Proofs.YthhjbmlkncdigaaGreatDoor
end
section
set_option linter.unusedSimpArgs false
set_option linter.unusedVariables false
namespace Go.Proofs.YthhjbmlkncdigaaGreatDoor
open Go Go.RowKit Go.Proofs
/-- A list of texts and a code, as a call gives them. -/
def TxRes (w : World) (S : List (List UInt8) → Int → Prop) (e : Ending) (w' : World) : Prop :=
  ∃ L kk tv, e = .returned (.tuple #[tv, .int .i64 kk]) ∧ w'.ownsRow w.heap.size 9 1 tv L.length (svB L) ∧ S L kk ∧ Ext w w'
theorem TxRes.none {w w' : World} {S : List (List UInt8) → Int → Prop} {k : Int} (hS : S [] k) (hX : Ext w w') : TxRes w S (.returned (.tuple #[.slice none 0 0, .int .i64 k])) w' :=
  ⟨[], k, _, rfl, World.ownsRow_nil .., hS, hX⟩
end Go.Proofs.YthhjbmlkncdigaaGreatDoor
end
