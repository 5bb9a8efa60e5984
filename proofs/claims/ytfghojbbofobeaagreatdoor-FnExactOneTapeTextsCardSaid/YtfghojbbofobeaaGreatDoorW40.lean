/- Contract of the reference's beginning of a machine with several tapes on words.
Contracts: the reference's beginning of the run of the machine with one tape for several.
The reference's way to the tape of a line, in plain words. No program stands here. -/
import Derived.Test.YtfghojbbofobeaaGreatDoorW39
import Derived.Test.YtfghojbbofobeaaGreatDoorW30
import Derived.Test.YtfghojbbofobeaaGreatDoorW36
import Derived.Test.YtfghojbbofobeaaGreatDoorW12
import Derived.Test.YtfghojbbofobeaaGreatDoorW07
import Derived.Maps.AppendAt
import Derived.Deep.RegionHeld3
import Derived.Test.YtfghojbbofobeaaGreatDoorW24
section
set_option linter.unusedVariables false
set_option linter.unusedSimpArgs false
namespace Go.Proofs.YtfghojbbofobeaaGreatDoor
open Go Go.RowKit Go.Proofs Go.Maps
set_option maxHeartbeats 400000
theorem trimN_gt (xs : List Int) : ∀ (n i : Nat), i < n → xs.getD i 0 ≠ 0 → i < trimN xs n
  | 0, i, h, _ => by omega
  | n + 1, i, h, h0 => by
    unfold trimN
    split
    · rename_i hz
      by_cases e : i = n
      · subst e
        exact absurd (by simpa using hz) h0
      · exact trimN_gt xs n i (by omega) h0
    · omega
theorem side_word {x : List Int} {sy : Int} (h1 : 1 ≤ sy) (hl : x.length ≤ 200) : sideOk (trim x) sy 200 = (x.all fun z => inB z 0 (sy - 1)) := by
  have hle := trim_len x
  cases hb : (x.all fun z => inB z 0 (sy - 1)) with
  | true =>
    rw [List.all_eq_true] at hb
    exact trim_side2 (by omega) (fun z hz => inB_iff.1 (hb z hz))
  | false =>
    rw [List.all_eq_false] at hb
    obtain ⟨z, hz, hnz⟩ := hb
    obtain ⟨i, hi, rfl⟩ := List.getElem_of_mem hz
    have hg : x.getD i 0 = x[i] := by rw [List.getD_eq_getElem?_getD, List.getElem?_eq_getElem hi]; rfl
    have h0 : x[i] ≠ 0 := fun e => hnz (by rw [e]; exact inB_iff.2 ⟨by omega, by omega⟩)
    have hlt := trimN_gt x x.length i hi (by rw [hg]; exact h0)
    have hm : x[i] ∈ trim x := by
      unfold trim
      rw [List.mem_take_iff_getElem]
      exact ⟨i, by omega, rfl⟩
    cases hs : sideOk (trim x) sy 200 with
    | false => rfl
    | true =>
      simp only [sideOk, Bool.and_eq_true, List.all_eq_true] at hs
      exact absurd (hs.1.2 _ hm) hnz
/-- What the reference's beginning on words gives. -/
def StartS (w0 : World) (m : MultiD) (ws : List (List Int)) (e : Ending) (w' : World) : Prop :=
  (multiOk m = false ∧ e = .returned (.tuple #[.agg #[.int .i64 0, .slice none 0 0], .int .i64 1])) ∨
  (multiOk m = true ∧ ¬ ((ws.length : Int) = m.tp ∧ ws.all (wordOk m) = true) ∧ e = .returned (.tuple #[.agg #[.int .i64 0, .slice none 0 0], .int .i64 2])) ∨
  (multiOk m = true ∧ (ws.length : Int) = m.tp ∧ ws.all (wordOk m) = true ∧ ∃ v, e = .returned (.tuple #[.agg #[.int .i64 0, v], .int .i64 0]) ∧ OwnT w0.heap.size w' v (ws.map startT))
set_option maxRecDepth 20000 in
set_option maxHeartbeats 4000000 in
theorem StartMultiS_c (m : MultiD) (mv wv : Value) (ws : List (List Int)) (vs : List Value) (w : World) (hM : Mult w mv m) (hW : Row w 1 wv ws.length vs) (hI : ∀ i, (h : i < ws.length) → ∃ u, vs[i]? = some u ∧ Ints w u ws[i] ∧ ws[i].length ≤ 1048576) :
    Calls Tryz.prog 49 #[mv, wv] w fun e w' => StartS w m ws e w' ∧ Ext w w' := by
  obtain ⟨rv, rfl, hR⟩ := id hM
  obtain ⟨A, cA, rfl, _, _⟩ := hR.form
  obtain ⟨B, cB, rfl, hB1, hB2, hvl⟩ := hW.form
  obtain ⟨i0, hi0, hz0, hz1, hz2⟩ := info_parts tapeInfoS
  obtain ⟨V, hV⟩ : ∃ V, V = (w.alloc (.cells #[.int .i64 m.tp, .int .i64 m.sy, .int .i64 m.st, .slice A m.rules.length cA] 33)).alloc (.cells #[.int .i64 0, .slice none 0 0] 68) := ⟨_, rfl⟩
  have hX : Ext w V := by rw [hV]; exact (Ext.alloc _ _).trans (Ext.alloc _ _)
  obtain ⟨g, hg⟩ : ∃ g, w.heap.size = g := ⟨_, rfl⟩
  have bM : Blk V g 33 #[.int .i64 m.tp, .int .i64 m.sy, .int .i64 m.st, .slice A m.rules.length cA] := by rw [hV]; exact (Blk.new _ _ _ _ hg).alloc _
  have bO : Blk V (g + 1) 68 #[.int .i64 0, .slice none 0 0] := by rw [hV]; exact Blk.new _ _ _ _ (by simp [hg])
  have VM := l06Is_c g m _ V bM (hR.ext hX)
  cases hm : multiOk m with
  | false =>
    rw [hm] at VM
    have HM := Lib.hid hm
    clear hm
    go_enter Tryz.func49, Tryz.ntmps49
    go_wp2_with fail
    try rw [← hV]
    try rw [hg]
    clear hV
    refine VM.mono ?_
    rintro e w1 ⟨rfl, hx1⟩
    have bO1 := bO.ext hx1
    have ob := bO1.cell
    have of_ := bO1.frozen
    have HX := Lib.hid (((hX.trans hx1).setCell (p := ⟨g + 1, 0, none⟩) (by show w.heap.size ≤ g + 1; omega) (.int .i64 0)).setCell (p := ⟨g + 1, 1, none⟩) (by show w.heap.size ≤ g + 1; omega) (.slice none 0 0))
    go_wp2_with fail
    exact bodyPost_ret (v := .tuple #[.agg #[.int .i64 0, .slice none 0 0], .int .i64 1]) (by simp [results, Tryz.results49, go_sem, ob]) rfl ⟨.inl ⟨HM.out, rfl⟩, HX.out⟩
  | true =>
    rw [hm] at VM
    have HM := Lib.hid hm
    obtain ⟨⟨tp1, tp2⟩, ⟨sy1, sy2⟩, _⟩ := multi_all hm
    clear hm
    by_cases hn : (ws.length : Int) = m.tp
    · have hne : ((ws.length : Int) != m.tp) = false := by simp [hn]
      have HN : Hid ((ws.length : Int) = m.tp) := hn
      have hn3 : ws.length ≤ 3 := by omega
      clear hn
      go_enter Tryz.func49, Tryz.ntmps49
      go_wp2_with fail
      try rw [← hV]
      try rw [hg]
      clear hV
      refine VM.mono ?_
      rintro e w1 ⟨rfl, hx1⟩
      have hX1 := hX.trans hx1
      have bM1 := bM.ext hx1
      have bO1 := bO.ext hx1
      have m0 := bM1.cell 0
      simp only [List.getElem?_toArray, List.getElem?_cons_zero, List.getElem?_cons_succ] at m0
      obtain ⟨W, hWW⟩ : ∃ W, W = w1.alloc (.cells #[.int .i64 0, .slice none 0 0] 68) := ⟨_, rfl⟩
      obtain ⟨gc, hgc⟩ : ∃ gc, w1.heap.size = gc := ⟨_, rfl⟩
      have hXW : Ext w1 W := by rw [hWW]; exact Ext.alloc _ _
      have bC : Blk W gc 68 #[.int .i64 0, .slice none 0 0] := by rw [hWW]; exact Blk.new _ _ _ _ hgc
      have hgl : g + 1 < gc := by rw [← hgc]; exact bO1.lt
      have bMW := bM1.ext hXW
      have bOW := bO1.ext hXW
      have hXWW := hX1.trans hXW
      have st0 : OwnT (gc + 1) W (.slice none 0 0) ((ws.map startT).take 0) := ⟨[], World.ownsRow_nil .., TCells.nil _ _⟩
      clear VM hX bO bM bM1 bO1 hx1 hXW
      go_wp2_with fail
      try rw [← hWW]
      try rw [hgc]
      clear hWW m0
      go_loopw [7] (fun u wr => ∃ (k : Nat) (v : Value), k ≤ ws.length ∧ u = .int .i64 (k : Int) ∧ OwnT (gc + 1) wr v ((ws.map startT).take k) ∧ Ext w wr ∧ Blk wr g 33 #[.int .i64 m.tp, .int .i64 m.sy, .int .i64 m.st, .slice A m.rules.length cA] ∧ Blk wr (g + 1) 68 #[.int .i64 0, .slice none 0 0] ∧ Blk wr gc 68 #[.int .i64 0, v] ∧ Hid (∀ i, (h : i < ws.length) → i < k → wordOk m ws[i] = true)) (fun u _ => ws.length - (intOf u).toNat)
      case atStart => exact ⟨0, _, Nat.zero_le _, rfl, st0, hXWW, bMW, bOW, bC, fun i _ h => by omega⟩
      case round =>
        clear st0 hXWW bMW bOW bC
        obtain ⟨k, v, hk, rfl, st, hx, bM, bO, bC, HALL⟩ := hrel
        have m1 := bM.cell 1
        simp only [List.getElem?_toArray, List.getElem?_cons_zero, List.getElem?_cons_succ] at m1
        by_cases hlt : k < ws.length
        · obtain ⟨u, hu, iu, hlw⟩ := hI k hlt
          obtain ⟨b, off, rfl, hc⟩ := Row.at hW hlt
          have x0 := hx.cell ((hc k (by omega)).trans hu)
          have HNO : Hid (wordOk m ws[k] = false → ¬ ((ws.length : Int) = m.tp ∧ ws.all (wordOk m) = true)) := Lib.hid fun hf h => by
            have := List.all_eq_true.1 h.2 _ (List.getElem_mem hlt)
            rw [hf] at this
            cases this
          have HYES : Hid (wordOk m ws[k] = true → ∀ i, (h : i < ws.length) → i < k + 1 → wordOk m ws[i] = true) := Lib.hid fun ht i hi1 hi2 => by
            by_cases e : i = k
            · subst e; exact ht
            · exact HALL.out i hi1 (by omega)
          have hwk : Hid ((ws.map startT).take (k + 1) = (ws.map startT).take k ++ [startT ws[k]]) := by
            unfold Hid
            rw [List.take_succ_eq_append_getElem (by simpa using hlt)]
            simp
          obtain ⟨x, hxk⟩ : ∃ x, ws[k] = x := ⟨_, rfl⟩
          rw [hxk] at iu HNO HYES hwk hlw
          obtain ⟨A1, k1, rfl, _, _⟩ := id iu.form
          have TR := l06Trim_c _ x wr (iu.ext hx) hlw
          clear hxk hc hu iu
          go_wp2_with fail
          refine TR.mono ?_
          rintro e w3 ⟨u, rfl, ot, hx3⟩
          obtain ⟨A3, c3, rfl, _, _⟩ := id ot.ints.form
          have hX3 := hx.trans hx3
          have bM3 := bM.ext hx3
          have bO3 := bO.ext hx3
          have bC3 := bC.ext hx3
          have y0 := hx3.cell x0
          have y1 := bM3.cell 1
          simp only [List.getElem?_toArray, List.getElem?_cons_zero, List.getElem?_cons_succ] at y1
          have ob := bO3.cell
          have of_ := bO3.frozen
          have HX := Lib.hid ((hX3.setCell (p := ⟨g + 1, 0, none⟩) (by show w.heap.size ≤ g + 1; omega) (.int .i64 0)).setCell (p := ⟨g + 1, 1, none⟩) (by show w.heap.size ≤ g + 1; omega) (.slice none 0 0))
          clear TR x0 m1
          by_cases h200 : 200 < x.length
          · have HB : Hid (¬ ((ws.length : Int) = m.tp ∧ ws.all (wordOk m) = true)) := HNO.out (by unfold wordOk; rw [decide_eq_false (by omega)]; rfl)
            have i4 : (200 : Int) < (x.length : Int) := by omega
            clear st
            go_wp2_with fail
            exact bodyPost_ret (v := .tuple #[.agg #[.int .i64 0, .slice none 0 0], .int .i64 2]) (by simp [results, Tryz.results49, go_sem, ob]) rfl ⟨.inr (.inl ⟨HM.out, HB.out, rfl⟩), HX.out⟩
          · have i4 : ¬ (200 : Int) < (x.length : Int) := by omega
            have AW := l06Side_c _ (trim x) m.sy w3 ot.ints (by omega) (by omega)
            rw [side_word (by omega) (by omega)] at AW
            have HWO : Hid (wordOk m x = (x.all fun z => inB z 0 (m.sy - 1))) := by unfold Hid wordOk; rw [decide_eq_true (by omega), Bool.true_and]
            generalize (x.all fun z => inB z 0 (m.sy - 1)) = ok at *
            cases ok with
            | false =>
              have HB := Lib.hid (HNO.out HWO.out)
              clear st
              go_wp2_with fail
              refine AW.mono ?_
              rintro e _ ⟨rfl, rfl⟩
              go_wp2_with fail
              exact bodyPost_ret (v := .tuple #[.agg #[.int .i64 0, .slice none 0 0], .int .i64 2]) (by simp [results, Tryz.results49, go_sem, ob]) rfl ⟨.inr (.inl ⟨HM.out, HB.out, rfl⟩), HX.out⟩
            | true =>
              have HY := Lib.hid (HYES.out HWO.out)
              have z1 := bC3.cell 1
              simp only [List.getElem?_toArray, List.getElem?_cons_zero, List.getElem?_cons_succ] at z1
              obtain ⟨h3, hh3⟩ : ∃ q, w3.heap.size = q := ⟨_, rfl⟩
              have hgc3 : gc < h3 := by rw [← hh3]; exact bC3.lt
              have hgc3' : gc < w3.heap.size := bC3.lt
              have hsr := hx.size
              have hsr3 := hx3.size
              have hgcr : gc < wr.heap.size := bC.lt
              obtain ⟨W5, hW5⟩ : ∃ W5, W5 = w3.alloc (.cells #[] 2) := ⟨_, rfl⟩
              have e5 : Ext w3 W5 := by rw [hW5]; exact Ext.alloc _ _
              have hs5 : W5.heap.size = h3 + 1 := by rw [hW5]; simp [hh3]
              have on5 : OwnInts (gc + 1) W5 (.slice (some ⟨h3, 0, none⟩) 0 0) [] := by
                rw [hW5, ← hh3]
                exact ownsRow_base (World.ownsRow_made (base := w3.heap.size) (e := 2) (size := 1) w3 #[] 0 (by simp) (by unfold maxLen; omega) (by simp)) (by omega)
              obtain ⟨W6, hW6⟩ : ∃ W6, W6 = W5.alloc (.cells #[.slice (some ⟨h3, 0, none⟩) 0 0, .slice A3 (trim x).length c3] 110) := ⟨_, rfl⟩
              have e6 : Ext W5 W6 := by rw [hW6]; exact Ext.alloc _ _
              have bN : Blk W6 (h3 + 1) 110 #[.slice (some ⟨h3, 0, none⟩) 0 0, .slice A3 (trim x).length c3] := by rw [hW6]; exact Blk.new _ _ _ _ hs5
              have eA : Ext w3 W6 := e5.trans e6
              have hXr : Ext wr W6 := hx3.trans eA
              obtain ⟨cl, ho1, hcl⟩ := st
              have hlk : ((ws.map startT).take k).length = k := by simp; omega
              rw [hlk] at ho1
              obtain ⟨Av, cv, rfl, _, _, _⟩ := (ownsRow_row ho1).form
              have ho6 := ownsRow_ext ho1 hXr
              have hNL : TCells (gc + 1) W6 (cl ++ [.slice (some ⟨h3, 0, none⟩) 0 0, .slice A3 (trim x).length c3]) ((ws.map startT).take k ++ [startT x]) :=
                (hcl.ext hXr).snoc (t := startT x) (OwnInts.ext on5 e6) (OwnInts.ext (ownsRow_base ot (by omega)) eA)
              have hs6 : gc + 1 ≤ W6.heap.size := by have := eA.size; omega
              have HLK2 := Lib.hid hlk
              clear hlk HX ob of_ ot on5 HNO HYES e5 e6
              generalize (trim x).length = nt at *
              go_wp2_with fail
              refine AW.mono ?_
              rintro e _ ⟨rfl, rfl⟩
              clear AW
              subst hW6 hW5
              go_wp2_with (at_builtin; refine wpList_append_own_at _ rfl _ _ 66 rfl (gc + 1) 110 i0 (.agg #[.slice none 0 0, .slice none 0 0]) 2 48 Tryz.underlying66 hi0 hz0 hz1 hz2 rfl (by decide) _ _ cl rfl ho6 ⟨h3 + 1, 0, none⟩ 1 1 [.slice (some ⟨h3, 0, none⟩) 0 0, .slice A3 nt c3] rfl rfl (World.news_of_block bN) ?c2 ?c3 ?c4 ?c5 ?_)
              case c2 => first | exact ⟨rfl, rfl⟩ | (intro u hu; simp at hu; rcases hu with rfl | rfl <;> rfl)
              case c3 => unfold maxLen; omega
              case c4 => omega
              case c5 => first | exact hs6 | omega
              intro v' w7 hown7 hg7 _ _
              have hg7' := hg7
              have HS : OwnT (gc + 1) w7 v' ((ws.map startT).take (k + 1)) := by
                rw [hwk.out]
                refine ⟨_, ?_, hNL.same fun q cs hq => hg7'.block q hq.lt (blk_ne_row hq ho6 (by decide))⟩
                have : ((ws.map startT).take k ++ [startT x]).length = k + 1 := by rw [List.length_append, HLK2.out]; rfl
                rw [this]
                exact hown7
              obtain ⟨A7, c7, rfl, _, _, _⟩ := (ownsRow_row hown7).form
              have bM7 := Blk.apart (bM3.ext eA) ho6 (by decide) hg7'
              have bO7 := Blk.apart (bO3.ext eA) ho6 (by decide) hg7'
              have bC7 := Blk.apart (bC3.ext eA) ho6 (by decide) hg7'
              have hx7 : Ext w w7 := (hX3.trans eA).grown hg7' (fun q hq => by have := (ho6.lt q hq).1; omega)
              have q3' := bC7.cell 1
              have qf := bC7.frozen 1
              simp only [List.getElem?_toArray, List.getElem?_cons_zero, List.getElem?_cons_succ] at q3'
              have HS' := Lib.hid (HS.far bC7 (by decide) (by decide) 1 (.slice A7 (k + 1) c7))
              have HX := Lib.hid (hx7.setCell (p := ⟨gc, 1, none⟩) (by show w.heap.size ≤ gc; omega) (.slice A7 (k + 1) c7))
              have HO := Lib.hid (bO7.far (p := ⟨gc, 1, none⟩) (by show g + 1 ≠ gc; omega) (.slice A7 (k + 1) c7))
              have HMM := Lib.hid (bM7.far (p := ⟨gc, 1, none⟩) (by show g ≠ gc; omega) (.slice A7 (k + 1) c7))
              have HC := Lib.hid (bC7.set_ 1 (.slice A7 (k + 1) c7))
              clear eA bN hXr ho6 hNL hown7 hg7 hg7' hx ho1 hcl HS bO bC bM bO7 bC7 bM7 hx7 bO3 bC3 bM3 hX3 hx3
              go_wp2_with fail
              go_roundw
              case rel => exact ⟨k + 1, _, by omega, by go_num, HS'.out, HX.out, HMM.out, HO.out, HC.out, HY.out⟩
              case measure => simp [intOf]; omega
        · obtain rfl : k = ws.length := by omega
          have hq0 := bC.cell 0
          have hq1 := bC.cell 1
          simp only [List.getElem?_toArray, List.getElem?_cons_zero, List.getElem?_cons_succ] at hq0 hq1
          have htk : (ws.map startT).take ws.length = ws.map startT := List.take_of_length_le (by simp)
          rw [htk] at st
          obtain ⟨Av, cv, rfl, _, _⟩ := st.form
          have HLW : Hid (ws.all (wordOk m) = true) := Lib.hid (by
            rw [List.all_eq_true]
            intro x hx
            obtain ⟨i, hi', rfl⟩ := List.getElem_of_mem hx
            exact HALL.out i hi' hi')
          have ob := bO.cell
          have of_ := bO.frozen
          have hsz := hx.size
          have HML : Hid ((ws.map startT).length = ws.length) := by unfold Hid; simp
          generalize (ws.map startT).length = nl at *
          have HT : Hid (∀ a b, OwnT w.heap.size ((wr.setCell ⟨g + 1, 0, none⟩ a).setCell ⟨g + 1, 1, none⟩ b) (.slice Av nl cv) (ws.map startT)) := Lib.hid fun a b => by
            have h1 := (st.far bO (by decide) (by decide) 0 a).far (bO.set_ 0 a) (by decide) (by decide) 1 b
            obtain ⟨cl, p1, p2⟩ := h1
            exact ⟨cl, ownsRow_base p1 (by omega), p2.1, fun i hi => by
              obtain ⟨x, y, c0, c1, o1, o2⟩ := p2.2 i hi
              exact ⟨x, y, c0, c1, ownsRow_base o1 (by omega), ownsRow_base o2 (by omega)⟩⟩
          have HE : Hid (∀ a b, Ext w ((wr.setCell ⟨g + 1, 0, none⟩ a).setCell ⟨g + 1, 1, none⟩ b)) := Lib.hid fun a b => (hx.setCell (p := ⟨g + 1, 0, none⟩) (by show w.heap.size ≤ g + 1; omega) a).setCell (p := ⟨g + 1, 1, none⟩) (by show w.heap.size ≤ g + 1; omega) b
          clear st htk bC bO bM
          go_wp2_with fail
          exact bodyPost_ret (v := .tuple #[.agg #[.int .i64 0, .slice Av nl cv], .int .i64 0]) (by simp [results, Tryz.results49, go_sem, ob]) rfl ⟨.inr (.inr ⟨HM.out, HN.out, HLW.out, _, rfl, HT.out _ _⟩), HE.out _ _⟩
    · have hne : ((ws.length : Int) != m.tp) = true := by simp [hn]
      have HN : Hid (¬ ((ws.length : Int) = m.tp ∧ ws.all (wordOk m) = true)) := fun h => hn h.1
      clear hn
      go_enter Tryz.func49, Tryz.ntmps49
      go_wp2_with fail
      try rw [← hV]
      try rw [hg]
      clear hV
      refine VM.mono ?_
      rintro e w1 ⟨rfl, hx1⟩
      have bM1 := bM.ext hx1
      have m0 := bM1.cell 0
      simp only [List.getElem?_toArray, List.getElem?_cons_zero, List.getElem?_cons_succ] at m0
      have bO1 := bO.ext hx1
      have ob := bO1.cell
      have of_ := bO1.frozen
      have HX := Lib.hid (((hX.trans hx1).setCell (p := ⟨g + 1, 0, none⟩) (by show w.heap.size ≤ g + 1; omega) (.int .i64 0)).setCell (p := ⟨g + 1, 1, none⟩) (by show w.heap.size ≤ g + 1; omega) (.slice none 0 0))
      go_wp2_with fail
      exact bodyPost_ret (v := .tuple #[.agg #[.int .i64 0, .slice none 0 0], .int .i64 2]) (by simp [results, Tryz.results49, go_sem, ob]) rfl ⟨.inr (.inl ⟨HM.out, HN.out, rfl⟩), HX.out⟩
end Go.Proofs.YtfghojbbofobeaaGreatDoor
end
section
set_option linter.unusedSimpArgs false
set_option linter.unusedVariables false
namespace Go.Proofs.YtfghojbbofobeaaGreatDoor
open Go Go.RowKit Go.Proofs Go.Maps
set_option maxHeartbeats 400000
theorem l00Max_c (a b : Int) (w : World) : Calls Tryz.prog 87 #[.int .i64 a, .int .i64 b] w fun e w' => e = .returned (.int .i64 (max a b)) ∧ w = w' := by
  by_cases h : b < a
  · have HM : Hid (max a b = a) := Lib.hid (by omega)
    go_enter Tryz.func87, Tryz.ntmps87
    go_wp2
    go_ret
    exact ⟨by rw [HM.out]; rfl, rfl⟩
  · have HM : Hid (max a b = b) := Lib.hid (by omega)
    go_enter Tryz.func87, Tryz.ntmps87
    go_wp2
    go_ret
    exact ⟨by rw [HM.out]; rfl, rfl⟩
set_option maxRecDepth 20000 in
set_option maxHeartbeats 4000000 in
theorem l13Start_c (b : Nat) (m : MultiD) (wv : Value) (ws : List (List Int)) (vs : List Value) (w : World) (hM : MulAt w b m) (hm : multiOk m = true) (hn : ws.length ≤ 3) (hw : ∀ x ∈ ws, x.length ≤ 200 ∧ ∀ z ∈ x, 0 ≤ z ∧ z ≤ m.sy - 1) (hW : Row w 1 wv ws.length vs) (hI : ∀ i, (h : i < ws.length) → ∃ u, vs[i]? = some u ∧ Ints w u ws[i]) :
    Calls Tryz.prog 50 #[.pointer (some ⟨b, 0, none⟩), wv] w fun e w' => ∃ lv rv, e = .returned (.tuple #[.agg #[.int .i64 0, lv, rv], .bool (decide ((rightO m ws).length ≤ 200))]) ∧ OwnInts w.heap.size w' lv [] ∧ OwnInts w.heap.size w' rv (rightO m ws) ∧ Ext w w' := by
  obtain ⟨i0, hi, hz0, hz1, hz2⟩ := info_parts intInfo
  obtain ⟨_, ⟨y1, y2⟩, _⟩ := multi_all hm
  obtain ⟨B, cB, rfl, hB1, hB2, hvl⟩ := id hW.form
  obtain ⟨A, cA, hb, _⟩ := hM
  have HW := Lib.hid hw
  obtain ⟨ro, hro⟩ : ∃ r, rightO m ws = r := ⟨_, rfl⟩
  rw [hro]
  have HRO0 := Lib.hid hro
  clear hro
  obtain ⟨g, hg⟩ : ∃ g, w.heap.size = g := ⟨_, rfl⟩
  obtain ⟨V, hV⟩ : ∃ V, V = w.alloc (.cells #[.int .i64 0, .slice none 0 0, .slice none 0 0] 52) := ⟨_, rfl⟩
  have hX : Ext w V := by rw [hV]; exact Ext.alloc _ _
  have bO : Blk V g 52 #[.int .i64 0, .slice none 0 0, .slice none 0 0] := by rw [hV]; exact Blk.new _ _ _ _ hg
  have b1 := (hb.ext hX).cell 1
  simp only [List.getElem?_toArray, List.getElem?_cons_zero, List.getElem?_cons_succ] at b1
  have hgV : g < V.heap.size := bO.lt
  clear hm hw
  go_enter Tryz.func50, Tryz.ntmps50
  go_wp2_with fail
  try rw [← hV]
  try rw [hg]
  clear hV
  go_loopw [6, 7] (fun mo t wr => ∃ k : Nat, k ≤ ws.length ∧ mo = .int .i64 (longL (ws.take k) : Nat) ∧ t = .int .i64 k ∧ wr = V) (fun _ t _ => ws.length - (intOf t).toNat)
  case atStart => exact ⟨0, Nat.zero_le _, rfl, rfl, rfl⟩
  case round =>
    obtain ⟨k, hk, rfl, rfl, rfl⟩ := hrel
    by_cases hlt : k < ws.length
    · obtain ⟨u, hu, iu⟩ := hI k hlt
      obtain ⟨b', off, rfl, hc⟩ := Row.at hW hlt
      have x0 := hX.cell ((hc k (by omega)).trans hu)
      obtain ⟨x, hx⟩ : ∃ x, ws[k] = x := ⟨_, rfl⟩
      have HL : Hid (max ((longL (ws.take k) : Nat) : Int) (x.length : Int) = ((longL (ws.take (k + 1)) : Nat) : Int)) := Lib.hid (by
        rw [List.take_succ_eq_append_getElem hlt, longL_snoc, hx]
        omega)
      rw [hx] at iu
      obtain ⟨A1, k1, rfl, _, _⟩ := id iu.form
      clear hx hc hu iu
      have i1 : (k : Int) < (ws.length : Int) := by omega
      obtain ⟨L', hL'⟩ : ∃ L', longL (ws.take (k + 1)) = L' := ⟨_, rfl⟩
      have MX := l00Max_c ((longL (ws.take k) : Nat) : Int) (x.length : Int) wr
      rw [HL.out, hL'] at MX
      have HL' := Lib.hid hL'
      clear hL' HL
      generalize longL (ws.take k) = L at *
      go_wp2_with fail
      refine MX.mono ?_
      rintro e _ ⟨rfl, rfl⟩
      clear MX
      go_wp2_with fail
      go_roundw
      case rel => exact ⟨k + 1, by omega, by rw [HL'.out], by go_num, by first | trivial | rfl⟩
      case measure => simp [intOf]; omega
    · obtain rfl : k = ws.length := by omega
      rw [List.take_length]
      obtain ⟨wA, hwA⟩ : ∃ q, q = wr := ⟨_, rfl⟩
      subst hwA
      have HRO : Hid (ro = trim (flatW m.sy ws (longL ws))) := Lib.hid (by rw [← HRO0.out]; rfl)
      obtain ⟨N, hN⟩ : ∃ N, longL ws = N := ⟨_, rfl⟩
      have hN2 : N ≤ 200 := by rw [← hN]; exact longL_le (by omega) (fun t ht => (HW.out t ht).1)
      rw [hN] at HRO ⊢
      clear hN
      obtain ⟨g1, hg1⟩ : ∃ k, wA.heap.size = k := ⟨_, rfl⟩
      obtain ⟨W1, hW1⟩ : ∃ W, W = wA.alloc (.cells #[] 2) := ⟨_, rfl⟩
      have hX1 : Ext wA W1 := by rw [hW1]; exact Ext.alloc _ _
      have ho1 : OwnInts g1 W1 (.slice (some ⟨g1, 0, none⟩) 0 0) (flatW m.sy ws 0) := by
        rw [hW1, ← hg1]
        exact World.ownsRow_made (base := wA.heap.size) (e := 2) (size := 1) wA #[] 0 (by simp) (by unfold maxLen; omega) (by simp [flatW])
      go_wp2_with fail
      try rw [← hW1]
      try rw [hg1]
      clear hW1
      go_loopw [8, 9] (fun rv j wq => ∃ k : Nat, k ≤ N ∧ j = .int .i64 k ∧ OwnInts g1 wq rv (flatW m.sy ws k) ∧ Ext wA wq) (fun _ j _ => N - (intOf j).toNat)
      case atStart => exact ⟨0, Nat.zero_le _, rfl, ho1, hX1⟩
      case round =>
        clear ho1 hX1
        obtain ⟨wq, hwq⟩ : ∃ q, q = wr := ⟨_, rfl⟩
        subst hwq
        obtain ⟨k, hk, rfl, ho, hxq⟩ := hrel
        by_cases hlt : k < N
        · have i1 : (k : Int) < (N : Int) := by omega
          obtain ⟨ys0, hys0⟩ : ∃ ys, flatW m.sy ws k = ys := ⟨_, rfl⟩
          have HY0 : Hid (ys0.length ≤ 600) := Lib.hid (by
            rw [← hys0, flatW_length]
            exact Nat.mul_le_mul (show k ≤ 200 by omega) hn)
          have HYS : Hid (flatW m.sy ws (k + 1) = ys0 ++ (rowW m.sy ws k).take ws.length) := Lib.hid (by
            rw [flatW_succ, hys0, List.take_of_length_le (by simp [rowW])])
          rw [hys0] at ho
          clear hys0
          go_wp2_with fail
          go_loopw [8, 10] (fun rv t wp => ∃ j : Nat, j ≤ ws.length ∧ t = .int .i64 j ∧ OwnInts g1 wp rv (ys0 ++ (rowW m.sy ws k).take j) ∧ Ext wA wp) (fun _ t _ => ws.length - (intOf t).toNat)
          case atStart => exact ⟨0, Nat.zero_le _, rfl, by simpa using ho, hxq⟩
          case round =>
            clear ho hxq
            obtain ⟨wp, hwp⟩ : ∃ q, q = wr := ⟨_, rfl⟩
            subst hwp
            obtain ⟨j, hj, rfl, ho, hxp⟩ := hrel
            by_cases hjl : j < ws.length
            · obtain ⟨u, hu, iu⟩ := hI j hjl
              obtain ⟨b', off, rfl, hc⟩ := Row.at hW hjl
              have hXp := hX.trans hxp
              have x0 := hXp.cell ((hc j (by omega)).trans hu)
              have HS := Lib.hid (rowW_take_succ m.sy ws k j hjl)
              have hzb := getD_all (P := fun z => 0 ≤ z ∧ z ≤ m.sy - 1) (HW.out _ (List.getElem_mem hjl)).2 ⟨Int.le_refl _, by omega⟩ k
              obtain ⟨z, hz⟩ : ∃ z, ws[j].getD k 0 = z := ⟨_, rfl⟩
              obtain ⟨x, hx⟩ : ∃ x, cellW m.sy k ws[j] = x := ⟨_, rfl⟩
              have HX : Hid (x = if k = 0 then z + m.sy else z) := Lib.hid (by rw [← hx, ← hz]; rfl)
              rw [hx] at HS
              have hlen : (ys0 ++ (rowW m.sy ws k).take j).length ≤ 1000 := by
                have := HY0.out
                rw [List.length_append, List.length_take]
                omega
              obtain ⟨wd, hwd⟩ : ∃ wd, ws[j] = wd := ⟨_, rfl⟩
              rw [hwd] at iu hz hzb
              obtain ⟨A1, k1, rfl, _, _⟩ := id iu.form
              have LC := l13Cell_c _ wd k _ (iu.ext hXp)
              rw [hz] at LC hzb
              have b1 := hxp.cell b1
              obtain ⟨ys, hys⟩ : ∃ ys, ys0 ++ (rowW m.sy ws k).take j = ys := ⟨_, rfl⟩
              rw [hys] at hlen ho
              have HYQ := Lib.hid hys
              clear hys
              clear hx hz hc hu iu hwd
              have i2 : (j : Int) < (ws.length : Int) := by omega
              have hgp : g1 ≤ wA.heap.size := by omega
              obtain ⟨Ay, cy, rfl, _, _⟩ := id ho.ints.form
              have ho' := ownsRow_ext ho (Ext.alloc wp (.cells #[.int .i64 x] 2))
              have hsp := hxp.size
              go_wp2_with fail
              refine LC.mono ?_
              rintro e _ ⟨rfl, rfl⟩
              clear LC
              go_upto_if 45 with fail
              go_cut [11] (fun u wx => u = .int .i64 x ∧ wx = wp)
              case first =>
                by_cases hk0 : k = 0
                · subst hk0
                  have HX2 : Hid (z + m.sy = x) := Lib.hid (by rw [HX.out]; rfl)
                  go_wp2_with fail
                  go_meet
                  rw [← HX2.out]
                  exact ⟨by first | rfl | go_num, rfl⟩
                · have HX2 : Hid (z = x) := Lib.hid (by rw [HX.out, if_neg hk0])
                  have hk1 : ((k : Int) == 0) = false := by simp; omega
                  go_wp2_with fail
                  go_meet
                  rw [← HX2.out]
                  exact ⟨rfl, rfl⟩
              case rest =>
                rename World => wx
                obtain ⟨rfl, rfl⟩ := hcut
                go_wp2_with (at_builtin; refine wpList_append_own_at _ rfl _ _ 44 rfl g1 2 i0 (.int .i64 0) 1 8 Tryz.underlying44 hi hz0 hz1 hz2 rfl (by decide) _ _ _ rfl ho' ⟨wx.heap.size, 0, none⟩ 1 1 [.int .i64 x] rfl rfl (cell_one_new _ _ _) ?c2 ?c3 ?c4 ?c5 ?_)
                case c2 => intro u hu; simp at hu; subst hu; rfl
                case c3 => unfold maxLen; omega
                case c4 => omega
                case c5 => simp; omega
                intro v' w5 hown' hgrow _ _
                have HO : Hid (OwnInts g1 w5 v' (ys0 ++ (rowW m.sy ws k).take (j + 1))) := by
                  unfold Hid OwnInts
                  rw [HS.out, ← List.append_assoc, HYQ.out, ivs_append, List.length_append]
                  exact hown'
                have HX5 : Hid (Ext wA w5) := Lib.hid ((hxp.trans (Ext.alloc _ _)).grown hgrow (fun b hb => by have := (ho'.lt b hb).1; omega))
                clear hown' hgrow ho' ho
                go_wp2
                go_roundw
                case rel => exact ⟨j + 1, by omega, by go_num, HO.out, HX5.out⟩
                case measure => simp [intOf]; omega
            · obtain rfl : j = ws.length := by omega
              rw [← HYS.out] at ho
              go_wp2
              go_roundw
              case rel => exact ⟨k + 1, by omega, by go_num, ho, hxp⟩
              case measure => simp [intOf]; omega
        · obtain rfl : k = N := by omega
          have hlf : (flatW m.sy ws k).length ≤ 600 := by
            rw [flatW_length]
            exact Nat.mul_le_mul hN2 hn
          obtain ⟨ys, hys⟩ : ∃ ys, flatW m.sy ws k = ys := ⟨_, rfl⟩
          rw [hys] at ho hlf HRO
          clear hys
          obtain ⟨Ay, cy, rfl, _, _⟩ := id ho.ints.form
          have hXq := hX.trans hxq
          obtain ⟨g2, hg2⟩ : ∃ k, wq.heap.size = k := ⟨_, rfl⟩
          obtain ⟨W2, hW2⟩ : ∃ W, W = wq.alloc (.cells #[] 2) := ⟨_, rfl⟩
          have hX2 : Ext wq W2 := by rw [hW2]; exact Ext.alloc _ _
          have hgq : w.heap.size ≤ g2 := by rw [← hg2]; exact hXq.size
          have ho2 : OwnInts g2 W2 (.slice (some ⟨g2, 0, none⟩) 0 0) [] := by
            rw [hW2, ← hg2]
            exact World.ownsRow_made (base := wq.heap.size) (e := 2) (size := 1) wq #[] 0 (by simp) (by unfold maxLen; omega) (by simp)
          have LT := l05Trim_c _ ys W2 (ho.ints.ext hX2) (by omega)
          rw [← HRO.out] at LT
          clear HRO
          go_wp2_with fail
          try rw [← hW2]
          try rw [hg2]
          clear hW2
          refine LT.mono ?_
          rintro e w3 ⟨u3, rfl, o3, hx3⟩
          obtain ⟨A3, c3, rfl, _, _⟩ := id o3.ints.form
          obtain ⟨W4, hW4⟩ : ∃ W, W = w3.alloc (.cells #[.int .i64 0, .slice (some ⟨g2, 0, none⟩) 0 0, .slice A3 ro.length c3] 52) := ⟨_, rfl⟩
          have hX4 : Ext w3 W4 := by rw [hW4]; exact Ext.alloc _ _
          obtain ⟨g4, hg4⟩ : ∃ k, w3.heap.size = k := ⟨_, rfl⟩
          have b4 : Blk W4 g4 52 #[.int .i64 0, .slice (some ⟨g2, 0, none⟩) 0 0, .slice A3 ro.length c3] := by rw [hW4]; exact Blk.new _ _ _ _ hg4
          have c0 := b4.cell 0
          have c1 := b4.cell 1
          have c2 := b4.cell 2
          simp only [List.getElem?_toArray, List.getElem?_cons_zero, List.getElem?_cons_succ] at c0 c1 c2
          have hE := ((hXq.trans hX2).trans hx3).trans hX4
          have bO4 := bO.ext (((hxq.trans hX2).trans hx3).trans hX4)
          have hW2s : w.heap.size ≤ W2.heap.size := by have := hX2.size; omega
          have o2 := ownsRow_base (OwnInts.ext ho2 (hx3.trans hX4)) hgq
          have o4 := ownsRow_base (OwnInts.ext o3 hX4) hW2s
          clear LT ho
          go_wp2_with fail
          try rw [← hW4]
          try rw [hg4]
          clear hW4
          have hgb : w.heap.size ≤ g := by omega
          have hg4g : g4 ≠ g := by have := bO4.lt; have := hX.size; have h3 := (hxq.trans hX2).trans hx3; have := h3.size; omega
          have q2 : ∀ b, (Value.slice (some ⟨g2, 0, none⟩) 0 0).ownBlock = some b → b ≠ g := fun b hb e => by
            subst e
            exact blk_ne_row bO4 o2 (by decide) hb.symm
          have q4 : ∀ b, (Value.slice A3 ro.length c3).ownBlock = some b → b ≠ g := fun b hb e => by
            subst e
            exact blk_ne_row bO4 o4 (by decide) hb.symm
          have zD := Ext.drew W4
          have bO5 := bO4.ext zD
          have b5 := b4.ext zD
          have o2' := OwnInts.ext o2 zD
          have o4' := OwnInts.ext o4 zD
          have hE5 := hE.trans zD
          have d0 := b5.cell 0
          have d1 := b5.cell 1
          have d2 := b5.cell 2
          have b6 := ((b5.far (p := ⟨g, 0, none⟩) hg4g (.int .i64 0)).far (p := ⟨g, 1, none⟩) hg4g (.slice (some ⟨g2, 0, none⟩) 0 0)).far (p := ⟨g, 2, none⟩) hg4g (.slice A3 ro.length c3)
          have y0 := b6.cell 0
          have y1 := b6.cell 1
          have y2 := b6.cell 2
          simp only [List.getElem?_toArray, List.getElem?_cons_zero, List.getElem?_cons_succ] at d0 d1 d2 y0 y1 y2
          have F2 := Lib.hid (ownsRow_far (ownsRow_far (ownsRow_far o2' (p := ⟨g, 0, none⟩) q2 (.int .i64 0)) (p := ⟨g, 1, none⟩) q2 (.slice (some ⟨g2, 0, none⟩) 0 0)) (p := ⟨g, 2, none⟩) q2 (.slice A3 ro.length c3))
          have F4 := Lib.hid (ownsRow_far (ownsRow_far (ownsRow_far o4' (p := ⟨g, 0, none⟩) q4 (.int .i64 0)) (p := ⟨g, 1, none⟩) q4 (.slice (some ⟨g2, 0, none⟩) 0 0)) (p := ⟨g, 2, none⟩) q4 (.slice A3 ro.length c3))
          have FX := Lib.hid (((hE5.setCell (p := ⟨g, 0, none⟩) hgb (.int .i64 0)).setCell (p := ⟨g, 1, none⟩) hgb (.slice (some ⟨g2, 0, none⟩) 0 0)).setCell (p := ⟨g, 2, none⟩) hgb (.slice A3 ro.length c3))
          have r0 := bO5.cell 0
          have r1 := bO5.cell 1
          have r2 := bO5.cell 2
          have rf0 := bO5.frozen 0
          have rf1 := bO5.frozen 1
          have rf2 := bO5.frozen 2
          simp only [List.getElem?_toArray, List.getElem?_cons_zero, List.getElem?_cons_succ] at r0 r1 r2
          have d := (((bO5.set_ 0 (.int .i64 0)).set_ 1 (.slice (some ⟨g2, 0, none⟩) 0 0)).set_ 2 (.slice A3 ro.length c3)).cell
          have HD := Lib.hid d
          clear d
          have hdd : decide ((ro.length : Int) ≤ 200) = decide (ro.length ≤ 200) := decide_eq_decide.2 (by omega)
          have HDD := Lib.hid hdd
          clear q2 q4 o2' o4' hE5 c0 c1 c2 hdd b6 b5
          refine wp_region_ordTS (fun w' => w'.cell? ⟨g4, 0, none⟩ = some (.int .i64 0) ∧ w'.cell? ⟨g4, 1, none⟩ = some (.slice (some ⟨g2, 0, none⟩) 0 0) ∧ w'.cell? ⟨g4, 2, none⟩ = some (.slice A3 ro.length c3)) 6 (readsT [0, 1, 2, 3, 4] (.stir 5 .done)) (by kernel_rfl) (by kernel_rfl) (fun _ _ _ _ _ h => h) ⟨d0, d1, d2⟩ ?_
          simp only [readsT]
          clear zD
          generalize W4.drew = W5 at *
          iterate 5
            refine wpOrdT_read (v := ?_) (by rfl) (Or.inl ⟨by rfl, fun x hx => ?_⟩) ?_
            rotate_left
            · obtain ⟨a1, a2, a3⟩ := hx
              go_simp
              try with_reducible rfl
            try simp only [Act.put, List.setIfInBounds_toArray, List.set_cons_zero, List.set_cons_succ]
          refine wpOrdT_keep (by rfl) (fun K hK => ?_)
          go_simp
          refine hK _ _ ⟨y0, y1, y2⟩ ?_
          clear hK K
          refine wpOrdT_done ?_
          try simp only [List.drop_succ_cons, List.drop_zero]
          go_wp2
          have d := HD.out
          exact bodyPost_ret (v := .tuple #[.agg #[.int .i64 0, .slice (some ⟨g2, 0, none⟩) 0 0, .slice A3 ro.length c3], .bool (decide ((ro.length : Int) ≤ 200))]) (by simp [results, Tryz.results50, go_sem, d]) rfl ⟨_, _, by rw [HDD.out], F2.out, F4.out, FX.out⟩
theorem StaRes.doneS {w w1 : World} {b base : Nat} {cs : Array Value} {xs : List Int} {lv rv : Value} (hb : w.heap.size ≤ b) (hX : Ext w w1) (hB : Blk w1 b 52 cs) (hl : OwnInts base w1 lv []) (h : OwnInts base w1 rv xs) (hbb : w.heap.size ≤ base) (x y z : Value) :
    StaRes w (⟨0, [], xs⟩, 0) (.returned (.tuple #[.agg #[.int .i64 0, lv, rv], .int .i64 0])) (((w1.setCell ⟨b, 0, none⟩ x).setCell ⟨b, 1, none⟩ y).setCell ⟨b, 2, none⟩ z) := by
  have f : ∀ {v : Value} {zs : List Int}, OwnInts base w1 v zs → ∀ k, v.ownBlock = some k → k ≠ b := fun {v zs} h k hk e => by
    subst e
    exact blk_ne_row hB h (by decide) hk.symm
  exact ⟨_, _, rfl, ownsRow_base (ownsRow_far (ownsRow_far (ownsRow_far hl (f hl) _) (f hl) _) (f hl) _) hbb, ownsRow_base (ownsRow_far (ownsRow_far (ownsRow_far h (f h) _) (f h) _) (f h) _) hbb, ((hX.setCell hb _).setCell hb _).setCell hb _⟩
set_option maxRecDepth 20000 in
set_option maxHeartbeats 4000000 in
theorem specStartOneTape_c (m : MultiD) (mv wv : Value) (ws : List (List Int)) (vs : List Value) (w : World) (hM : Mult w mv m) (hW : Row w 1 wv ws.length vs) (hI : ∀ i, (h : i < ws.length) → ∃ u, vs[i]? = some u ∧ Ints w u ws[i] ∧ ws[i].length ≤ 1048576) :
    Calls Tryz.prog 22 #[mv, wv] w (StaRes w (startOC m ws)) := by
  obtain ⟨rv, rfl, hR⟩ := id hM
  obtain ⟨A, cA, rfl, _, _⟩ := hR.form
  obtain ⟨B, cB, rfl, hB1, hB2, hvl⟩ := id hW.form
  obtain ⟨g, hg⟩ : ∃ g, w.heap.size = g := ⟨_, rfl⟩
  obtain ⟨V, hV⟩ : ∃ V, V = (w.alloc (.cells #[.int .i64 m.tp, .int .i64 m.sy, .int .i64 m.st, .slice A m.rules.length cA] 33)).alloc (.cells #[.int .i64 0, .slice none 0 0, .slice none 0 0] 52) := ⟨_, rfl⟩
  have hX : Ext w V := by rw [hV]; exact (Ext.alloc _ _).trans (Ext.alloc _ _)
  have bM : Blk V g 33 #[.int .i64 m.tp, .int .i64 m.sy, .int .i64 m.st, .slice A m.rules.length cA] := by rw [hV]; exact (Blk.new _ _ _ _ hg).alloc _
  have bO : Blk V (g + 1) 52 #[.int .i64 0, .slice none 0 0, .slice none 0 0] := by rw [hV]; exact Blk.new _ _ _ _ (by simp [hg])
  have SM := StartMultiS_c m (.agg #[.int .i64 m.tp, .int .i64 m.sy, .int .i64 m.st, .slice A m.rules.length cA]) (.slice B ws.length cB) ws vs V ⟨_, rfl, hR.ext hX⟩ (hW.ext hX) (fun i hi => by
    obtain ⟨u, e, iu, hf⟩ := hI i hi
    exact ⟨u, e, iu.ext hX, hf⟩)
  have hgb : w.heap.size ≤ g + 1 := by omega
  obtain ⟨R, hR'⟩ : ∃ R, R = startOC m ws := ⟨_, rfl⟩
  rw [← hR']
  have HR := Lib.hid hR'
  clear hR'
  go_enter Tryz.func22, Tryz.ntmps22
  go_wp2_with fail
  try rw [← hV]
  try rw [hg]
  clear hV
  refine SM.mono ?_
  rintro e w1 ⟨hres, hx1⟩
  clear SM
  have hX1 := hX.trans hx1
  have bO1 := bO.ext hx1
  have bOf := bO1.ext (Ext.alloc w1 (.cells #[.int .i64 0, .slice none 0 0] 68))
  have ob := bOf.cell
  have of_ := bOf.frozen
  rcases hres with ⟨hm, rfl⟩ | ⟨hm, hn, rfl⟩ | ⟨hm, hn, hw, v, rfl, hC⟩
  · have HE := Lib.hid (HR.out.trans (startOC_bad (ws := ws) hm))
    clear hm
    go_wp2
    rw [HE.out]
    exact bodyPost_ret (v := .tuple #[.agg #[.int .i64 0, .slice none 0 0, .slice none 0 0], .int .i64 1]) (by simp [results, Tryz.results22, go_sem, ob]) rfl (StaRes.fail hgb (hX1.trans (Ext.alloc _ _)) _ _ _)
  · have HE := Lib.hid (HR.out.trans (startOC_words hm hn))
    clear hm hn
    go_wp2
    rw [HE.out]
    exact bodyPost_ret (v := .tuple #[.agg #[.int .i64 0, .slice none 0 0, .slice none 0 0], .int .i64 2]) (by simp [results, Tryz.results22, go_sem, ob]) rfl (StaRes.fail hgb (hX1.trans (Ext.alloc _ _)) _ _ _)
  · have HE := Lib.hid (HR.out.trans (startOC_yes hm hn hw))
    obtain ⟨⟨tp1, tp2⟩, ⟨y1, y2⟩, _⟩ := multi_all hm
    obtain ⟨At, ct, rfl, _, _⟩ := hC.form
    obtain ⟨n, hnn⟩ : ∃ n, (ws.map startT).length = n := ⟨_, rfl⟩
    rw [hnn]
    obtain ⟨W1, hW1⟩ : ∃ W1, W1 = w1.alloc (.cells #[.int .i64 0, .slice At n ct] 68) := ⟨_, rfl⟩
    have hXa : Ext w1 W1 := by rw [hW1]; exact Ext.alloc _ _
    have hXW := hX1.trans hXa
    have bM1 := (bM.ext hx1).ext hXa
    have LS := l13Start_c g m (.slice B ws.length cB) ws vs W1 ⟨A, cA, bM1, hR.ext hXW⟩ hm (by omega) (fun x hx => wordOk_all (List.all_eq_true.1 hw x hx)) (hW.ext hXW) (fun i hi => by
      obtain ⟨u, e, iu, hf⟩ := hI i hi
      exact ⟨u, e, iu.ext hXW⟩)
    have HSO : Hid (startO m ws = ⟨0, [], rightO m ws⟩) := Lib.hid rfl
    obtain ⟨ro, hro⟩ : ∃ r, rightO m ws = r := ⟨_, rfl⟩
    rw [hro] at LS HSO HE
    clear hm hn hw hC hnn ob of_ hro
    go_wp2_with fail
    try rw [← hW1]
    clear hW1
    refine LS.mono ?_
    rintro e w2 ⟨lv2, rv2, rfl, ol2, or2, hx2⟩
    clear LS
    obtain ⟨Al, cl, rfl, _, _⟩ := id ol2.ints.form
    obtain ⟨Ar, cr, rfl, _, _⟩ := id or2.ints.form
    have hX2 := hXW.trans hx2
    obtain ⟨W3, hW3⟩ : ∃ W, W = w2.alloc (.cells #[.int .i64 0, .slice Al 0 cl, .slice Ar ro.length cr] 52) := ⟨_, rfl⟩
    have hX3 : Ext w2 W3 := by rw [hW3]; exact Ext.alloc _ _
    obtain ⟨g3, hg3⟩ : ∃ k, w2.heap.size = k := ⟨_, rfl⟩
    have b3 : Blk W3 g3 52 #[.int .i64 0, .slice Al 0 cl, .slice Ar ro.length cr] := by rw [hW3]; exact Blk.new _ _ _ _ hg3
    have hXX := hX2.trans hX3
    have bO3 := (((bO1.ext hXa).ext hx2).ext hX3)
    have ob := bO3.cell
    have of_ := bO3.frozen
    have z0 := b3.cell 0
    have z1 := b3.cell 1
    have z2 := b3.cell 2
    simp only [List.getElem?_toArray, List.getElem?_cons_zero, List.getElem?_cons_succ] at z0 z1 z2
    have ol3 := OwnInts.ext ol2 hX3
    have or3 := OwnInts.ext or2 hX3
    have hWb : w.heap.size ≤ W1.heap.size := hXW.size
    by_cases hl : ro.length ≤ 200
    · rw [if_pos hl, HSO.out] at HE
      have hd : decide (ro.length ≤ 200) = true := decide_eq_true hl
      clear hl
      subst hW3
      subst hg3
      go_wp2
      rw [HE.out]
      exact bodyPost_ret (v := .tuple #[.agg #[.int .i64 0, .slice Al 0 cl, .slice Ar ro.length cr], .int .i64 0]) (by simp [results, Tryz.results22, go_sem, ob]) rfl (StaRes.doneS hgb hXX bO3 ol3 or3 hWb _ _ _)
    · rw [if_neg hl] at HE
      have hd : decide (ro.length ≤ 200) = false := decide_eq_false hl
      clear hl
      subst hW3
      subst hg3
      go_wp2
      rw [HE.out]
      exact bodyPost_ret (v := .tuple #[.agg #[.int .i64 0, .slice none 0 0, .slice none 0 0], .int .i64 5]) (by simp [results, Tryz.results22, go_sem, ob]) rfl (StaRes.fail hgb hXX _ _ _)
end Go.Proofs.YtfghojbbofobeaaGreatDoor
end
section
set_option linter.unusedSimpArgs false
set_option linter.unusedVariables false
namespace Go.Proofs.YtfghojbbofobeaaGreatDoor
open Go Go.RowKit Go.Proofs
theorem floor_eqA {a b : Int} (hb : b = 2 ∨ b = 3) : (a.tmod b + b).tmod b = a % b := by
  have h1 : -b < a.tmod b ∧ a.tmod b < b := by
    rcases hb with rfl | rfl
    · have := Int.lt_tmod_of_pos a (b := 2) (by omega)
      have := Int.tmod_lt_of_pos a (b := 2) (by omega)
      omega
    · have := Int.lt_tmod_of_pos a (b := 3) (by omega)
      have := Int.tmod_lt_of_pos a (b := 3) (by omega)
      omega
  rw [Int.tmod_eq_emod_of_nonneg (by omega), Int.add_emod_right]
  have h2 := Int.mul_tdiv_add_tmod a b
  have h3 : a % b = (a.tmod b + b * (a.tdiv b)) % b := by rw [Int.add_comm, h2]
  rw [h3, Int.add_mul_emod_self_left]
/-- The number of marked cells. -/
def cntM (sy : Int) (zs : List Int) : Nat := zs.countP (markB sy)
theorem cntM_snoc (sy : Int) (zs : List Int) (y : Int) : cntM sy (zs ++ [y]) = cntM sy zs + if markB sy y then 1 else 0 := by
  unfold cntM
  rw [List.countP_append, List.countP_singleton]
theorem cntM_le (sy : Int) (zs : List Int) : cntM sy zs ≤ zs.length := List.countP_le_length
theorem cntM_zero {sy : Int} {zs : List Int} (h : cntM sy zs = 0) : zs.findIdx? (markB sy) = none :=
  List.findIdx?_eq_none_iff.2 fun x hx => by
    have := List.countP_eq_zero.1 h x hx
    simpa using this
/-- What the place of the last marked cell says. -/
def LastM (sy : Int) (zs : List Int) (hd : Int) : Prop := cntM sy zs = 1 → ∃ h : Nat, hd = h ∧ zs.findIdx? (markB sy) = some h ∧ (zs.drop (h + 1)).any (markB sy) = false
theorem LastM.nil (sy hd : Int) : LastM sy [] hd := fun h => by simp [cntM] at h
theorem find_app {sy : Int} {zs ys : List Int} {h : Nat} (hf : zs.findIdx? (markB sy) = some h) : (zs ++ ys).findIdx? (markB sy) = some h := by
  rw [List.findIdx?_append, hf]
  rfl
theorem LastM.skip {sy : Int} {zs : List Int} {hd : Int} (h : LastM sy zs hd) {y : Int} (hy : markB sy y = false) : LastM sy (zs ++ [y]) hd := fun hc => by
  rw [cntM_snoc, hy] at hc
  obtain ⟨k, e, hf, ha⟩ := h (by simpa using hc)
  have hl := (List.findIdx?_eq_some_iff_getElem.1 hf).1
  refine ⟨k, e, find_app hf, ?_⟩
  rw [List.drop_append_of_le_length (by omega), List.any_append, ha]
  simp [hy]
theorem LastM.mark {sy : Int} {zs : List Int} {y : Int} (hy : markB sy y = true) : LastM sy (zs ++ [y]) (zs.length : Int) := fun hc => by
  rw [cntM_snoc, hy] at hc
  have h0 : cntM sy zs = 0 := by simpa using hc
  refine ⟨zs.length, rfl, ?_, ?_⟩
  · rw [List.findIdx?_append, cntM_zero h0]
    simp [List.findIdx?_cons, hy]
  · rw [List.drop_eq_nil_of_le (by simp)]
    rfl
theorem dec_one {sy : Int} {zs : List Int} {hd : Int} (h : LastM sy zs hd) (hc : cntM sy zs = 1) : ∃ k : Nat, hd = k ∧ k < zs.length ∧ zs.findIdx? (markB sy) = some k ∧ (zs.drop (k + 1)).any (markB sy) = false := by
  obtain ⟨k, e, hf, ha⟩ := h hc
  exact ⟨k, e, (List.findIdx?_eq_some_iff_getElem.1 hf).1, hf, ha⟩
theorem dec_no {sy : Int} {zs : List Int} (hc : cntM sy zs ≠ 1) : tapeDec sy zs = none := by
  cases hf : zs.findIdx? (markB sy) with
  | none => exact tapeDec_none hf
  | some k =>
    obtain ⟨hk, hm, hn⟩ := List.findIdx?_eq_some_iff_getElem.1 hf
    cases ha : (zs.drop (k + 1)).any (markB sy) with
    | true => exact tapeDec_two hf ha
    | false =>
      exfalso
      apply hc
      have e : zs = zs.take k ++ zs[k] :: zs.drop (k + 1) := by rw [← List.drop_eq_getElem_cons hk, List.take_append_drop]
      unfold cntM
      rw [e, List.countP_append, List.countP_cons, hm]
      have h1 : (zs.take k).countP (markB sy) = 0 := List.countP_eq_zero.2 fun x hx => by
        obtain ⟨i, hi, rfl⟩ := List.getElem_of_mem hx
        rw [List.getElem_take]
        simpa using hn i (by rw [List.length_take] at hi; omega)
      have h2 : (zs.drop (k + 1)).countP (markB sy) = 0 := List.countP_eq_zero.2 fun x hx => by
        have := List.any_eq_false.1 ha x hx
        simpa using this
      rw [h1, h2]
      rfl
/-- The cells without their marks. -/
def plainM (sy : Int) (zs : List Int) : List Int := zs.map (· % sy)
theorem plain_take {sy : Int} {zs : List Int} {k : Nat} (hB : ∀ z ∈ zs, 0 ≤ z ∧ z ≤ 2 * sy - 1) (hf : zs.findIdx? (markB sy) = some k) : (plainM sy zs).take k = zs.take k := by
  obtain ⟨hk, hm, hn⟩ := List.findIdx?_eq_some_iff_getElem.1 hf
  unfold plainM
  rw [← List.map_take]
  conv => rhs; rw [← List.map_id (zs.take k)]
  apply List.map_congr_left
  intro x hx
  obtain ⟨i, hi, rfl⟩ := List.getElem_of_mem hx
  rw [List.getElem_take]
  have hi2 : i < k := by rw [List.length_take] at hi; omega
  have h1 := hn i hi2
  have h2 := hB _ (List.getElem_mem (show i < zs.length by omega))
  have h3 : ¬ sy ≤ zs[i] := fun h => h1 (decide_eq_true h)
  exact Int.emod_eq_of_lt h2.1 (by omega)
theorem plain_drop {sy : Int} {zs : List Int} {k : Nat} (hB : ∀ z ∈ zs, 0 ≤ z ∧ z ≤ 2 * sy - 1) (hf : zs.findIdx? (markB sy) = some k) (ha : (zs.drop (k + 1)).any (markB sy) = false) :
    (plainM sy zs).drop k = (zs.getD k 0 - sy) :: zs.drop (k + 1) := by
  obtain ⟨hk, hm, hn⟩ := List.findIdx?_eq_some_iff_getElem.1 hf
  unfold plainM
  rw [← List.map_drop, List.drop_eq_getElem_cons hk, List.map_cons]
  have h2 := hB _ (List.getElem_mem hk)
  have h3 : sy ≤ zs[k] := of_decide_eq_true hm
  have e1 : zs[k] % sy = zs.getD k 0 - sy := by
    rw [List.getD_eq_getElem?_getD, List.getElem?_eq_getElem hk]
    show zs[k] % sy = zs[k] - sy
    rw [← Int.sub_emod_right zs[k] sy]
    exact Int.emod_eq_of_lt (by omega) (by omega)
  rw [e1]
  congr 1
  conv => rhs; rw [← List.map_id (zs.drop (k + 1))]
  apply List.map_congr_left
  intro x hx
  have h4 := hB x (List.mem_of_mem_drop hx)
  have h5 := List.any_eq_false.1 ha x hx
  have h6 : ¬ sy ≤ x := fun h => h5 (decide_eq_true h)
  exact Int.emod_eq_of_lt h4.1 (by omega)
theorem plain_snoc (sy : Int) (zs : List Int) (y : Int) : plainM sy (zs ++ [y]) = plainM sy zs ++ [y % sy] := by simp [plainM]
theorem lineT_hit {T f n : Nat} {xs : List Int} (h : n % T = f) : lineT T f xs (n + 1) = lineT T f xs n ++ [xs.getD n 0] := by
  unfold lineT
  rw [ixT_hit h, List.map_append]
  rfl
theorem lineT_skip {T f n : Nat} {xs : List Int} (h : n % T ≠ f) : lineT T f xs (n + 1) = lineT T f xs n := by
  unfold lineT
  rw [ixT_miss h]
/-- Where a cell is of the tape. -/
theorem first_iff {T t0 j : Int} (hT : T = 2 ∨ T = 3) (h0 : 0 ≤ j) (h1 : j < T) (H i : Nat) : ((t0 + ((i : Int) - H)) % T = j) ↔ i % T.toNat = frstC T t0 j H := by
  unfold frstC
  rcases hT with rfl | rfl
  · simp only [show (2 : Int).toNat = 2 from rfl]
    omega
  · simp only [show (3 : Int).toNat = 3 from rfl]
    omega
end Go.Proofs.YtfghojbbofobeaaGreatDoor
end
