/- Contract: the program's beginning of the run on one half of the tape. The machine is valid and the configuration is one of its.
A region that draws its order, within a round of a range over a function: walked along a tree, as elsewhere. No condition. -/
import Derived.Test.YtjcfmlecfjmcgaaGreatDoorS42
import Derived.Test.YtjcfmlecfjmcgaaGreatDoorS09
import Derived.Test.YtjcfmlecfjmcgaaGreatDoorS17
import Derived.Test.YtjcfmlecfjmcgaaGreatDoorS18
import Derived.Test.YtjcfmlecfjmcgaaGreatDoorS22
import Derived.OrdersIn
import Derived.RangeFuncCalls
import Derived.AtR
section
set_option linter.unusedSimpArgs false
set_option linter.unusedVariables false
namespace Go.Proofs.YtjcfmlecfjmcgaaGreatDoor
open Go Go.RowKit Go.Proofs Go.Maps
set_option maxHeartbeats 400000
theorem PlaRes.far {base : Nat} {w W w' : World} {r : ConfD × Int} {e : Ending} {g : Nat} {cs : Array Value} (h : PlaRes base W r e w') (hb : Blk W g 37 cs) (hX : Ext w W) (hg : w.heap.size ≤ g) :
    ∃ lv rv, e = .returned (.tuple #[.agg #[.int .i64 r.1.q, lv, rv], .int .i64 r.2]) ∧ (∃ nl cl nr cr Al Ar, lv = .slice Al nl cl ∧ rv = .slice Ar nr cr) ∧ Blk w' g 37 cs ∧ ∀ x y z : Value, PlaRes base w r (.returned (.tuple #[.agg #[.int .i64 r.1.q, lv, rv], .int .i64 r.2])) (((w'.setCell ⟨g, 0, none⟩ x).setCell ⟨g, 1, none⟩ y).setCell ⟨g, 2, none⟩ z) := by
  obtain ⟨lv, rv, he, h1, h2, h3, h4⟩ := h
  have hbw := hb.ext h4
  have f1 := own_far_blk h1 hbw (by decide)
  have f2 := own_far_blk h2 hbw (by decide)
  obtain ⟨A1, c1, e1, _, _⟩ := h1.ints.form
  obtain ⟨A2, c2, e2, _, _⟩ := h2.ints.form
  exact ⟨lv, rv, he, ⟨_, _, _, _, _, _, e1, e2⟩, hbw, fun x y z => ⟨_, _, rfl, ownsRow_far (ownsRow_far (ownsRow_far h1 f1 _) f1 _) f1 _, ownsRow_far (ownsRow_far (ownsRow_far h2 f2 _) f2 _) f2 _, h3, (((hX.trans h4).setCell hg _).setCell hg _).setCell hg _⟩⟩
set_option maxRecDepth 20000 in
set_option maxHeartbeats 4000000 in
theorem FoldConfig_c (m : MachD) (c : ConfD) (mv lv rv : Value) (w : World) (hm : machOk m = true) (hc : confB m c = true) (hr : Rules w mv m.rules) (hl : Ints w lv c.l) (hq : Ints w rv c.r) :
    Calls Tryz.prog 29 #[.agg #[.int .i64 m.sy, .int .i64 m.st, mv], .agg #[.int .i64 c.q, lv, rv]] w (PlaRes w.heap.size w (startF m c)) := by
  obtain ⟨i0, hi, hz0, hz1, hz2⟩ := info_parts intInfo
  obtain ⟨s1, s2, s3, s4, hrl⟩ := machOk_all hm
  obtain ⟨⟨q0, q1⟩, ⟨b1, b2⟩, ⟨b3, b4⟩⟩ := conf_all hc
  clear b2 b4 hrl
  obtain ⟨Am, cm, rfl, _, _⟩ := hr.form
  obtain ⟨Al, cl, rfl, _, _⟩ := hl.form
  obtain ⟨Aq, cq, rfl, _, _⟩ := hq.form
  obtain ⟨k, hk⟩ : ∃ k, w.heap.size = k := ⟨_, rfl⟩
  obtain ⟨W, hW⟩ : ∃ W, ((w.alloc (.cells #[.int .i64 m.sy, .int .i64 m.st, .slice Am m.rules.length cm] 35)).alloc (.cells #[.int .i64 c.q, .slice Al c.l.length cl, .slice Aq c.r.length cq] 37)).alloc (.cells #[.int .i64 0, .slice none 0 0, .slice none 0 0] 37) = W := ⟨_, rfl⟩
  have hX : Ext w W := by rw [← hW]; exact ((Ext.alloc _ _).trans (Ext.alloc _ _)).trans (Ext.alloc _ _)
  have bM : Blk W k 35 #[.int .i64 m.sy, .int .i64 m.st, .slice Am m.rules.length cm] := by rw [← hW]; exact ((Blk.new _ _ _ _ hk).alloc _).alloc _
  have bC : Blk W (k + 1) 37 #[.int .i64 c.q, .slice Al c.l.length cl, .slice Aq c.r.length cq] := by rw [← hW]; exact (Blk.new _ _ _ _ (by simp [hk])).alloc _
  have bO : Blk W (k + 2) 37 #[.int .i64 0, .slice none 0 0, .slice none 0 0] := by rw [← hW]; exact Blk.new _ _ _ _ (by simp [hk])
  have hV := ValidConfig_c _ _ m c W ⟨_, rfl, hr.ext hX⟩ ⟨_, _, rfl, hl.ext hX, hq.ext hX⟩
  rw [show (machOk m && confB m c) = true by rw [hm, hc]; rfl] at hV
  have m0 := bM.cell 0
  have m1 := bM.cell 1
  have m2 := bM.cell 2
  have c0 := bC.cell 0
  have c1 := bC.cell 1
  have c2 := bC.cell 2
  simp only [List.getElem?_toArray, List.getElem?_cons_zero, List.getElem?_cons_succ] at m0 m1 m2 c0 c1 c2
  have HSX := Lib.hid (startF_pla (m := m) c (by omega))
  have HM := Lib.hid hm
  clear hc
  go_enter Tryz.func29, Tryz.ntmps29
  go_wp2_with fail
  try rw [hW]
  try rw [hk]
  clear hW
  refine hV.mono ?_
  rintro e w1 ⟨rfl, hx1⟩
  have m0 := hx1.cell m0
  have m1 := hx1.cell m1
  have m2 := hx1.cell m2
  go_wp2_with fail
  refine (folded_c _ m w1 ⟨_, rfl, (hr.ext hX).ext hx1⟩ HM.out).mono ?_
  rintro e w2 ⟨hres, hx2⟩
  have hX2 := (hX.trans hx1).trans hx2
  have bO2 := (bO.ext hx1).ext hx2
  have c0 := hx2.cell (hx1.cell c0)
  have c1 := hx2.cell (hx1.cell c1)
  have c2 := hx2.cell (hx1.cell c2)
  have m0 := hx2.cell m0
  have hkk : w.heap.size ≤ k + 2 := by omega
  rcases hres with ⟨hn, rfl⟩ | ⟨s, bx, bm, rv1, pv1, hs, rfl, hst, hok, l1, l2⟩
  · have HE : Hid (startF m c = (blankC, 5)) := by unfold Hid; rw [HSX.out, hn]
    have ob := bO2.cell
    have of_ := bO2.frozen
    go_wp2
    rw [HE.out]
    exact bodyPost_ret (v := .tuple #[.agg #[.int .i64 0, .slice none 0 0, .slice none 0 0], .int .i64 5]) (by simp [results, Tryz.results29, go_sem, ob]) rfl ⟨_, _, rfl, World.ownsRow_nil .., World.ownsRow_nil .., (fun g hg => by simp [Value.ownBlock] at hg), ((hX2.setCell hkk _).setCell hkk _).setCell hkk _⟩
  · have HE : Hid (startF m c = plaR (m.sy + 1) s.1.length s.2 s.1 ⟨0, c.q, 0⟩ [m.sy] (interN c.r c.l (max c.l.length c.r.length))) := by unfold Hid; rw [HSX.out, hs]
    obtain ⟨W3, hW3⟩ : ∃ W3, w2.alloc (.cells #[] 2) = W3 := ⟨_, rfl⟩
    have hX3 : Ext w2 W3 := by rw [← hW3]; exact Ext.alloc _ _
    have ho3 : OwnInts w2.heap.size W3 (.slice (some ⟨w2.heap.size, 0, none⟩) 0 0) (interN c.r c.l 0) := by
      rw [← hW3]
      exact World.ownsRow_made (base := w2.heap.size) (e := 2) (size := 1) w2 #[] 0 (by simp) (by unfold maxLen; omega) (by simp [interN, ivs])
    obtain ⟨h0, hh0⟩ : ∃ h, w2.heap.size = h := ⟨_, rfl⟩
    rw [hh0] at ho3
    have v0 := c0
    have v1 := c1
    have v2 := c2
    have vm := m0
    have c0 := hX3.cell c0
    have c1 := hX3.cell c1
    have c2 := hX3.cell c2
    have m0 := hX3.cell m0
    go_wp2_with fail
    try rw [hW3]
    try rw [hh0]
    clear hW3
    obtain ⟨N, hN⟩ : ∃ N : Nat, max (c.l.length : Int) (c.r.length : Int) = (N : Int) := ⟨max c.l.length c.r.length, by omega⟩
    have HN : Hid (max c.l.length c.r.length = N) := by unfold Hid; omega
    have hN2 : N ≤ 200 := by omega
    rw [hN]
    clear hN
    go_loopw [8, 31] (fun tv iv wr => ∃ i : Nat, i ≤ N ∧ iv = .int .i64 (i : Int) ∧ OwnInts h0 wr tv (interN c.r c.l i) ∧ Ext w2 wr) (fun _ iv _ => N - (intOf iv).toNat)
    case atStart => exact ⟨0, Nat.zero_le _, rfl, ho3, hX3⟩
    case round =>
      clear ho3
      obtain ⟨i, hiN, rfl, ho, hXr⟩ := hrel
      have hX3r := hX2.trans hXr
      have hh0r : h0 ≤ wr.heap.size := by have := hXr.size; omega
      obtain ⟨At, ct, rfl, _, _⟩ := ho.ints.form
      have HLEN := Lib.hid (interN_length c.r c.l i)
      by_cases hlt : i < N
      · have i1 : (i : Int) < (N : Int) := by omega
        have d1 := (Ext.drew wr).cell (hXr.cell v1)
        have d2 := (Ext.drew wr).cell (hXr.cell v2)
        have SR := fun W' (h : Ext wr W') => symbolAt_c (.slice Aq c.r.length cq) c.r i W' ((hq.ext hX3r).ext h)
        have SL := fun W' (h : Ext wr W') => symbolAt_c (.slice Al c.l.length cl) c.l i W' ((hl.ext hX3r).ext h)
        obtain ⟨x, hx0⟩ : ∃ x, c.r.getD i 0 = x := ⟨_, rfl⟩
        obtain ⟨y, hy0⟩ : ∃ y, c.l.getD i 0 = y := ⟨_, rfl⟩
        rw [hx0] at SR
        rw [hy0] at SL
        have HNX : Hid (interN c.r c.l (i + 1) = interN c.r c.l i ++ [x, y]) := by unfold Hid; rw [interN_succ, hx0, hy0]
        clear hx0 hy0
        generalize interN c.r c.l i = ys at *
        have hXd := Ext.drew wr
        go_wp2_with fail
        refine wp_region_ordT 10 (readsT [0, 1, 2, 3, 5, 6, 7] (.stir 4 (.stir 8 (.stir 9 .done)))) (by kernel_rfl) (by kernel_rfl) (fun _ _ _ _ _ h => h) ?_
        simp only [readsT]
        generalize wr.drew = X at *
        iterate 7 (refine wpOrdT_read (v := ?_) (by rfl) (Or.inl ⟨by rfl, fun x hx => ?_⟩) ?_; rotate_left; (· have a1 := hx.cell d1; have a2 := hx.cell d2; go_simp; try with_reducible rfl); try simp only [Act.put, List.setIfInBounds_toArray, List.set_cons_zero, List.set_cons_succ])
        refine wpOrdT_keep (by rfl) (fun K hK => ?_)
        go_simp
        go_at_call 58
        refine (SR X hXd).mono ?_
        rintro e w' ⟨rfl, rfl⟩
        refine hK _ _ (Ext.refl _) ?_
        clear hK K
        refine wpOrdT_keep (by rfl) (fun K hK => ?_)
        go_simp
        go_at_call 58
        refine (SL X hXd).mono ?_
        rintro e w' ⟨rfl, rfl⟩
        refine hK _ _ (Ext.refl _) ?_
        clear hK K
        refine wpOrdT_keep (by rfl) (fun K hK => ?_)
        go_simp
        refine hK _ _ (Ext.alloc _ _) ?_
        clear hK K
        refine wpOrdT_done ?_
        try simp only [List.drop_succ_cons, List.drop_zero]
        have ho' := ownsRow_ext (ho.ext hXd) (Ext.alloc X (.cells #[.int .i64 x, .int .i64 y] 2))
        have hXs := hXd.size
        have hyl : ys.length ≤ 400 := by have := HLEN.out; omega
        clear SR SL d1 d2
        go_wp2_with (at_builtin; refine wpList_append_own_at _ rfl _ _ 25 rfl h0 2 i0 (.int .i64 0) 1 8 Tryz.underlying25 hi hz0 hz1 hz2 rfl (by decide) _ _ _ rfl ho' ⟨X.heap.size, 0, none⟩ 2 2 [.int .i64 x, .int .i64 y] rfl rfl ?c1 ?c2 ?c3 ?c4 ?c5 ?_)
        case c1 =>
          intro j u hj
          match j, hj with
          | 0, hj => simp at hj; subst hj; simp [Addr.add]
          | 1, hj => simp at hj; subst hj; simp [Addr.add]
        case c2 => intro u hu; simp at hu; rcases hu with rfl | rfl <;> rfl
        case c3 => unfold maxLen; omega
        case c4 => omega
        case c5 => simp; omega
        intro v' w5 hown' hgrow _ _
        have HO : Hid (OwnInts h0 w5 v' (interN c.r c.l (i + 1))) := by
          unfold Hid OwnInts
          rw [HNX.out, ivs_append, List.length_append]
          exact hown'
        have HX5 : Hid (Ext w2 w5) := Lib.hid (((hXr.trans hXd).trans (Ext.alloc X _)).grown hgrow (fun b hb => by have := (ho'.lt b hb).1; omega))
        clear hown' hgrow ho'
        go_wp2
        go_roundw
        case rel => exact ⟨i + 1, by omega, by go_num, HO.out, HX5.out⟩
        case measure => simp [intOf]; omega
      · obtain rfl : i = N := by omega
        have v0 := hXr.cell v0
        have vm := hXr.cell vm
        have hsy : m.sy ≤ 5 := by
          have := hs
          unfold foldOf at this
          split at this
          · cases this
          · omega
        obtain ⟨ys, hys⟩ : ∃ ys, interN c.r c.l i = ys := ⟨_, rfl⟩
        rw [HN.out, hys] at HE
        rw [hys] at ho HLEN ⊢
        clear hys
        obtain ⟨V, hV⟩ : ∃ V, wr.alloc (.cells #[.int .i64 m.sy] 2) = V := ⟨_, rfl⟩
        have hXV : Ext wr V := by rw [← hV]; exact Ext.alloc _ _
        have bL : Blk V wr.heap.size 2 (ivs [m.sy]).toArray := by rw [← hV]; exact Blk.new _ _ _ _ rfl
        obtain ⟨g, hg⟩ : ∃ g, wr.heap.size = g := ⟨_, rfl⟩
        rw [hg] at bL hh0r
        have oL := own_of_blk (base := w.heap.size) bL (by have := hX2.size; omega) (by simp)
        have oR : OwnInts w.heap.size V (.slice At ys.length ct) ys := ownsRow_base (ho.ext hXV) (by have := hX2.size; omega)
        have hgl : ∀ g', (Value.slice At ys.length ct).ownBlock = some g' → g' < g := fun g' h' => by have := (ho.lt g' h').2; omega
        have hPC := placedConfig_c w.heap.size w1.heap.size V bx (m.sy + 1) s.1.length s.2 s.1 ⟨0, c.q, 0⟩ rv1 pv1 bm [m.sy] ys _ _ ((hst.ext hXr).ext hXV) oL oR (fun g' h1 h2 => by
          have h3 := hgl g' h2
          simp [Value.ownBlock] at h1
          omega) (by simp) (by have := HLEN.out; omega) (show small 0 by unfold small; omega) (by unfold small; simp only; omega) (show small 0 by unfold small; omega) (by omega) (by omega) (by omega) (by omega)
        rw [← HE.out] at hPC
        have bO4 := (bO2.ext hXr).ext hXV
        have hX4 := hX3r.trans hXV
        simp only [FP.v, List.length_cons, List.length_nil] at hPC
        clear HE ho oR oL bL
        go_wp2_with fail
        try rw [hV]
        clear hV
        refine hPC.mono ?_
        rintro e w5 hres
        obtain ⟨lv5, rv5, rfl, ⟨nl, cl5, nr, cr5, Al5, Ar5, rfl, rfl⟩, b5, hdone⟩ := hres.far bO4 hX4 hkk
        have HD := Lib.hid hdone
        clear hdone hres
        have ob := b5.cell
        have of_ := b5.frozen
        go_wp2
        exact bodyPost_ret (v := .tuple #[.agg #[.int .i64 (startF m c).1.q, .slice Al5 nl cl5, .slice Ar5 nr cr5], .int .i64 (startF m c).2]) (by simp [results, Tryz.results29, go_sem, ob]) rfl (HD.out _ _ _)
end Go.Proofs.YtjcfmlecfjmcgaaGreatDoor
end
section
set_option linter.unusedSimpArgs false
set_option linter.unusedVariables false
namespace Go.Proofs.YtjcfmlecfjmcgaaGreatDoor
open Go Go.RowKit
theorem opIn_round {l n : Nat} {P : Program} {o : Oper} {a : Act} {w : World} {K : Act → World → Prop} {Q : Exit → Act → World → Prop} (ho : ∀ c, o.op ≠ .defer c) (h : o.wp P a w K Q) : o.wpIn (Fence.wide.inRound l) n P a w K Q := by
  refine ⟨fun _ _ => trivial, ?_⟩
  rw [Oper.semAt_eq _ _ _ ho]
  unfold Oper.wp at h
  have hd : ¬ ((Fence.wide.inRound l).depth.isSome = true) := by simp [Fence.wide]
  generalize (execOp a.eval o).run P w = r at h
  cases r with
  | ok x w' =>
    cases x with
    | value v => exact h
    | skip => exact h
    | defer d => exact h
    | enter f args => exact ⟨fun e => absurd e hd, CallsIn.inRound l (callsIn_wide.2 h)⟩
    | row row args => exact ⟨fun e => absurd e hd, fun c cs _ => let ⟨v, w', r, s⟩ := h c cs; ⟨v, w', r, stepsIn_wide.2 s⟩⟩
    | _ => exact h.elim
  | halt x w' => cases x <;> first | exact h | exact h.elim
def noDefer (o : Oper) : Bool := match o.op with | .defer _ => false | _ => true
theorem noDefer_spec {o : Oper} (h : noDefer o = true) : ∀ c, o.op ≠ .defer c := by
  intro c e
  unfold noDefer at h
  rw [e] at h
  cases h
theorem anyIn_round {l n : Nat} {P : Program} {md : Region.Mode} {ops : Array Oper} {Q : Exit → Act → World → Prop} (hq : ¬ LetsOut Q) (hd : ∀ (i : Nat) o, ops[i]? = some o → noDefer o = true) :
    ∀ (fuel : Nat) (listed : Array Bool) (a : Act) (w : World), wpAny P md ops Q fuel listed a w → wpAnyIn (Fence.wide.inRound l) n P md ops Q fuel listed a w := by
  intro fuel
  induction fuel with
  | zero => intro listed a w h; exact h
  | succ fuel ih =>
    intro listed a w h
    refine ⟨h.1, fun i hi => ?_⟩
    have h2 := h.2 i hi
    unfold wpOp at h2
    unfold wpOpIn
    cases ho : ops[i]? with
    | none => rw [ho] at h2; exact ih _ _ _ h2
    | some o =>
      rw [ho] at h2
      dsimp only at h2 ⊢
      split
      · rename_i hw
        rw [if_pos hw] at h2
        rcases h2 with h2 | ⟨_, h2⟩
        · exact opIn_round (noDefer_spec (hd i o ho)) (Oper.wp_mono (fun a w => ih _ a w) h2)
        · exact absurd h2 hq
      · rename_i hw
        rw [if_neg hw] at h2
        exact ⟨fun _ _ => trivial, ih _ _ _ h2⟩
variable {P : Program} {Q : Exit → Act → World → Prop}
/-- As wp_region_ordT, within a round. -/
theorem wpIn_region_ordT {m k : Nat} {id : Nat} {a : Act} {w : World} {l : List Oper} (n : Nat) (tr : OrdT) (hm : P.follows .mixedOrders = true) (hB : ordTreeB .any l.toArray n tr = true) (hD : l.all noDefer = true) (hq : ¬ LetsOut Q)
    (hQ : ∀ c t t' d w, Q (.panic c) ⟨t, d⟩ w → Q (.panic c) ⟨t', d⟩ w)
    (h : wpOrdT P l.toArray Q l (fun a' w' => wpList P l.toArray Q (l.drop n) a' w') tr (Ext w.drew) a w.drew) : (Code.region id l.toArray true).wpIn (Fence.wide.inRound m) k P Q a w := by
  simp only [ordTreeB, Bool.and_eq_true, decide_eq_true_eq] at hB
  obtain ⟨⟨⟨⟨hsel, hn⟩, hs⟩, hc⟩, hord⟩ := hB
  have hn' : n < l.length := by simpa using hn
  have hdl : (l.drop n).length = l.toArray.size - n := by simp
  have inv0 : HeadInv .any l.toArray n (Array.replicate l.toArray.size false) :=
    ⟨by simp, fun j oj _ hl => (by rw [getD_replicate_false] at hl; cases hl), fun t _ ht => getD_in (by simpa using ht) (getD_replicate_false _ _)⟩
  have H := wpAnyN_ordT (md := .any) (g := l.toArray.size - n) (Lq := fun a' w' => wpList P l.toArray Q (l.drop n) a' w') rfl hsel hQ hs hc hn n tr (Ext w.drew) _ a w.drew inv0 hord (Ext.refl _) h
  refine wpIn_region_any hm (anyIn_round hq (fun i o ho => ?_) _ _ _ _ ?_)
  · have : o ∈ l := by simpa using Array.mem_of_getElem? ho
    exact List.all_eq_true.1 hD o this
  · have := wpAny_of_N (Q := Q) (g := l.toArray.size - n) (fun listed a' w' hL => by
      have := wpAny_of_seq (md := .any) (Q' := Q) (l.drop n) n listed a' w' (fun j => by simp [List.getElem?_drop]) (by rw [hdl]; exact hL.1) hL.2
      rwa [hdl] at this) _ _ _ _ _ H
    rw [show n + (l.toArray.size - n) = l.toArray.size by simp; omega] at this
    exact this
end Go.Proofs.YtjcfmlecfjmcgaaGreatDoor
end
