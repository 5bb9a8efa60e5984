/- Contract of the program's reading of a configuration with several tapes.
Contracts of the program's reversed and joined lists, and of the library's Grow of nil and Concat. Lists are short. -/
import Derived.Test.YtkbpchdncljlbaaU14
import Derived.Test.YtkbpchdncljlbaaU09
import Derived.Lib.OwnBridge
import Derived.Lib.AppendZerosOnto
import Derived.Laws.AppendOwnNone
section
set_option linter.unusedVariables false
set_option linter.unusedSimpArgs false
namespace Go.Proofs.Ytkbpchdncljlbaa
open Go Go.RowKit Go.Proofs Go.Maps
set_option maxHeartbeats 400000
/-- Tapes in memory. -/
def Tapes (w : World) (v : Value) (ts : List TapeD) : Prop :=
  ∃ A c, v = .slice A ts.length c ∧ ts.length ≤ c ∧ c ≤ 9223372036854775807 ∧ (0 < ts.length → ∃ b off, A = some ⟨b, off, none⟩ ∧ ∀ i, (h : i < ts.length) → ∃ vl vr,
    w.cell? ⟨b, off + i * 2, none⟩ = some vl ∧ w.cell? ⟨b, off + i * 2 + 1, none⟩ = some vr ∧ Ints w vl ts[i].l ∧ Ints w vr ts[i].r)
theorem Tapes.ext {w w' : World} {v : Value} {ts : List TapeD} (h : Tapes w v ts) (he : Ext w w') : Tapes w' v ts := by
  obtain ⟨A, c, rfl, h1, h2, h3⟩ := h
  refine ⟨A, c, rfl, h1, h2, fun hn => ?_⟩
  obtain ⟨b, off, e, hc⟩ := h3 hn
  refine ⟨b, off, e, fun i hi => ?_⟩
  obtain ⟨vl, vr, c0, c1, i1, i2⟩ := hc i hi
  exact ⟨vl, vr, he.cell c0, he.cell c1, i1.ext he, i2.ext he⟩
theorem Tapes.form {w : World} {v : Value} {ts : List TapeD} (h : Tapes w v ts) : ∃ A c, v = .slice A ts.length c ∧ ts.length ≤ c ∧ c ≤ 9223372036854775807 := by
  obtain ⟨A, c, e, h1, h2, _⟩ := h
  exact ⟨A, c, e, h1, h2⟩
theorem Tapes.at {w : World} {A : Option Addr} {c : Nat} {ts : List TapeD} (h : Tapes w (.slice A ts.length c) ts) {i : Nat} (hi : i < ts.length) : ∃ b off vl vr, A = some ⟨b, off, none⟩ ∧
    w.cell? ⟨b, off + i * 2, none⟩ = some vl ∧ w.cell? ⟨b, off + i * 2 + 1, none⟩ = some vr ∧ Ints w vl ts[i].l ∧ Ints w vr ts[i].r := by
  obtain ⟨A', c', e, _, _, h3⟩ := h
  injection e with e1 _ _
  subst e1
  obtain ⟨b, off, e, hc⟩ := h3 (by omega)
  obtain ⟨vl, vr, hh⟩ := hc i hi
  exact ⟨b, off, vl, vr, e, hh⟩
/-- The cells of what is read. -/
def rdC (x : KeyM) : Array Value := #[.int .i64 x.1, .int .i64 x.2.1, .int .i64 x.2.2.1, .int .i64 x.2.2.2]
theorem rdC_put (q z : Int) (xs : List Int) (h : xs.length < 3) : (rdC (key3 q xs)).setIfInBounds (1 + xs.length) (.int .i64 z) = rdC (key3 q (xs ++ [z])) := by
  match xs, h with
  | [], _ => rfl
  | [a], _ => rfl
  | [a, b], _ => rfl
  | _ :: _ :: _ :: l, h => simp at h; omega
theorem key3_zero (q : Int) (xs : List Int) : key3 q (xs ++ [0]) = key3 q xs := by
  have key : ∀ i, (xs ++ [0]).getD i 0 = xs.getD i 0 := fun i => by
    rw [List.getD_eq_getElem?_getD, List.getD_eq_getElem?_getD]
    by_cases h : i < xs.length
    · rw [List.getElem?_append_left h]
    · rw [List.getElem?_append_right (by omega), List.getElem?_eq_none (show xs.length ≤ i by omega)]
      cases i - xs.length <;> rfl
  simp only [key3, key]
set_option maxRecDepth 20000 in
set_option maxHeartbeats 4000000 in
theorem read_c (bc : Nat) (c : MConfD) (tv : Value) (w : World) (h0 : w.cell? ⟨bc, 0, none⟩ = some (.int .i64 c.q)) (h1 : w.cell? ⟨bc, 1, none⟩ = some tv) (hT : Tapes w tv c.tapes) (hn : c.tapes.length ≤ 3) :
    Calls Try.prog 63 #[.pointer (some ⟨bc, 0, none⟩)] w fun e w' => e = .returned (rdE (readM c)) ∧ Ext w w' := by
  obtain ⟨A, cap, rfl, hc1, hc2⟩ := hT.form
  obtain ⟨W, hW⟩ : ∃ W, W = (w.alloc (.cells #[.int .i64 0, .int .i64 0, .int .i64 0, .int .i64 0] 103)).alloc (.cells #[.int .i64 c.q, .int .i64 0, .int .i64 0, .int .i64 0] 103) := ⟨_, rfl⟩
  have hX : Ext w W := by rw [hW]; exact (Ext.alloc _ _).trans (Ext.alloc _ _)
  obtain ⟨g, hg⟩ : ∃ g, w.heap.size = g := ⟨_, rfl⟩
  have bO : Blk W g 103 #[.int .i64 0, .int .i64 0, .int .i64 0, .int .i64 0] := by rw [hW]; exact (Blk.new _ _ _ _ hg).alloc _
  have bX : Blk W (g + 1) 103 (rdC (key3 c.q ((c.tapes.take 0).map headT))) := by rw [hW]; exact Blk.new _ _ _ _ (by simp [hg])
  have hlast : Hid ((c.tapes.take c.tapes.length).map headT = c.tapes.map headT) := by unfold Hid; rw [List.take_length]
  have HRD : Hid (readM c = key3 c.q (c.tapes.map headT)) := rfl
  rw [HRD.out]
  have hbc := World.block_lt_of_cell? w _ h0
  simp only at hbc
  rw [hg] at hbc
  have h0W := hX.cell h0
  have h1W := hX.cell h1
  go_enter Try.func63, Try.ntmps63
  go_wp2_with fail
  try rw [← hW]
  try rw [hg]
  clear hW
  go_loopw [16] (fun i wr => ∃ k : Nat, k ≤ c.tapes.length ∧ i = .int .i64 (k : Int) ∧ Ext w wr ∧ Blk wr g 103 #[.int .i64 0, .int .i64 0, .int .i64 0, .int .i64 0] ∧ Blk wr (g + 1) 103 (rdC (key3 c.q ((c.tapes.take k).map headT)))) (fun i _ => c.tapes.length - (intOf i).toNat)
  case atStart => exact ⟨0, Nat.zero_le _, rfl, hX, bO, bX⟩
  case round =>
    clear bO bX hX h0W h1W
    obtain ⟨k, hk, rfl, hx, bO, bX⟩ := hrel
    by_cases hlt : k < c.tapes.length
    · obtain ⟨b, off, vl, vr, rfl, c0, c1, i1, i2⟩ := (hT.ext hx).at hlt
      have hxl : ((c.tapes.take k).map headT).length = k := by rw [List.length_map, List.length_take]; omega
      have hnx : (c.tapes.take (k + 1)).map headT = (c.tapes.take k).map headT ++ [headT c.tapes[k]] := by rw [List.take_succ_eq_append_getElem hlt, List.map_append]; rfl
      obtain ⟨t, ht⟩ : ∃ t, c.tapes[k] = t := ⟨_, rfl⟩
      rw [ht] at i1 i2 hnx
      have HNX := Lib.hid hnx
      generalize hxs : (c.tapes.take k).map headT = xs at *
      have HXL := Lib.hid hxl
      obtain ⟨A1, k1, rfl, _, _⟩ := i1.form
      obtain ⟨A2, k2, rfl, _, _⟩ := i2.form
      obtain ⟨V, hV⟩ : ∃ V, V = wr.alloc (.cells #[.slice A1 t.l.length k1, .slice A2 t.r.length k2] 42) := ⟨_, rfl⟩
      have hXV : Ext wr V := by rw [hV]; exact Ext.alloc _ _
      have hxV := hx.trans hXV
      have bOV := bO.ext hXV
      have bXV := bX.ext hXV
      have k3 : k < 3 := by omega
      have hput := rdC_put c.q (headT t) xs (by omega)
      rw [hxl] at hput
      have f0 := bXV.frozen (1 + k)
      have hgs : g + 1 < wr.heap.size := bX.lt
      clear hnx hxs hxl ht
      by_cases hr0 : 0 < t.r.length
      · obtain ⟨ga, oa, rfl, hca⟩ := i2.at hr0
        have a0 := hXV.cell (hca 0 hr0)
        have hhd : headT t = t.r[0] := by unfold headT; rw [List.getD_eq_getElem?_getD, List.getElem?_eq_getElem hr0]; rfl
        rw [← hhd] at a0
        simp only [Nat.add_zero] at a0
        have HP : Hid (Blk ((wr.setCell ⟨g + 1, 1 + k, none⟩ (.int .i64 (headT t))).alloc (.cells #[.slice A1 t.l.length k1, .slice (some ⟨ga, oa, none⟩) t.r.length k2] 42)) (g + 1) 103 (rdC (key3 c.q ((c.tapes.take (k + 1)).map headT)))) := by
          unfold Hid
          rw [HNX.out, ← hput]
          exact (bX.set_ (1 + k) _).alloc _
        have HO : Hid (Blk ((wr.setCell ⟨g + 1, 1 + k, none⟩ (.int .i64 (headT t))).alloc (.cells #[.slice A1 t.l.length k1, .slice (some ⟨ga, oa, none⟩) t.r.length k2] 42)) g 103 #[.int .i64 0, .int .i64 0, .int .i64 0, .int .i64 0]) := Lib.hid ((bO.far (by simp) _).alloc _)
        have HE : Hid (Ext w ((wr.setCell ⟨g + 1, 1 + k, none⟩ (.int .i64 (headT t))).alloc (.cells #[.slice A1 t.l.length k1, .slice (some ⟨ga, oa, none⟩) t.r.length k2] 42))) := Lib.hid ((hx.setCell (p := ⟨g + 1, 1 + k, none⟩) (by show w.heap.size ≤ g + 1; omega) _).trans (Ext.alloc _ _))
        obtain ⟨u, hu⟩ : ∃ u, wr.cell? ⟨g + 1, 1 + k, none⟩ = some u := ⟨_, by rw [bX.cell, Array.getElem?_eq_getElem (by simp [rdC]; omega)]⟩
        have f0 := bX.frozen (1 + k)
        rw [hV] at a0
        generalize headT t = z at *
        clear bXV bX hput hhd hca i2 hV hXV hxV bOV
        go_wp2_with fail
        go_roundw
        case rel => exact ⟨k + 1, by omega, by go_num, HE.out, HO.out, HP.out⟩
        case measure => simp [intOf]; omega
      · have hz : headT t = 0 := by unfold headT; rw [List.getD_eq_getElem?_getD, List.getElem?_eq_none (by omega)]; rfl
        have HP : Hid (Blk V (g + 1) 103 (rdC (key3 c.q ((c.tapes.take (k + 1)).map headT)))) := by
          unfold Hid
          rw [HNX.out, hz, key3_zero]
          exact bXV
        rw [hV] at HP hxV bOV
        have HO := Lib.hid bOV
        have HE := Lib.hid hxV
        clear hV hz hput f0 bXV bX bOV hxV
        go_wp2
        go_roundw
        case rel => exact ⟨k + 1, by omega, by go_num, HE.out, HO.out, HP.out⟩
        case measure => simp [intOf]; omega
    · obtain rfl : k = c.tapes.length := by omega
      rw [hlast.out] at bX
      obtain ⟨y, hy⟩ : ∃ y, key3 c.q (c.tapes.map headT) = y := ⟨_, rfl⟩
      rw [hy] at bX
      have HY := Lib.hid hy
      have b0 := bX.cell 0
      have b1 := bX.cell 1
      have b2 := bX.cell 2
      have b3 := bX.cell 3
      simp only [rdC, List.getElem?_toArray, List.getElem?_cons_zero, List.getElem?_cons_succ] at b0 b1 b2 b3
      have ob := bO.cell
      have of_ := bO.frozen
      clear hy
      go_wp2
      rw [HY.out]
      exact bodyPost_ret (v := rdE y) (by simp [results, Try.results63, go_sem, ob, rdE]) rfl ⟨rfl, ((((hx.setCell (p := ⟨g, 0, none⟩) (by show w.heap.size ≤ g; omega) _).setCell (p := ⟨g, 1, none⟩) (by show w.heap.size ≤ g; omega) _).setCell (p := ⟨g, 2, none⟩) (by show w.heap.size ≤ g; omega) _).setCell (p := ⟨g, 3, none⟩) (by show w.heap.size ≤ g; omega) _)⟩
end Go.Proofs.Ytkbpchdncljlbaa
end
section
set_option linter.unusedSimpArgs false
set_option linter.unusedVariables false
namespace Go.Proofs.Ytkbpchdncljlbaa
open Go Go.RowKit Go.Proofs
set_option maxHeartbeats 400000
/-- A slice that is nil, or whose address is one of a plain cell. -/
def Flat (v : Value) : Prop := v = .slice none 0 0 ∨ ∃ b off n c, v = .slice (some ⟨b, off, none⟩) n c
theorem OwnInts.flat {base : Nat} {w : World} {v : Value} {zs : List Int} (h : OwnInts base w v zs) : Flat v := by
  rcases h.2 with ⟨rfl, _⟩ | ⟨g, cap, cur, rfl, _⟩
  · exact .inl rfl
  · exact .inr ⟨g, 0, _, cap, rfl⟩
theorem grownBy_refl (w : World) (r : Option Nat) : w.grownBy w r := ⟨rfl, rfl, rfl, Nat.le_refl _, fun _ _ _ => rfl⟩
theorem CloneF_c (v : Value) (zs : List Int) (w : World) (h : Ints w v zs) (hf : Flat v) (h1 : zs.length ≤ 1048576) :
    Calls Try.prog 28 #[v] w fun e w' => ∃ u, e = .returned u ∧ OwnInts w.heap.size w' u zs ∧ (u = .slice none 0 0 → zs = []) ∧ Ext w w' := by
  obtain ⟨i0, hi, hz0, hz1, hz2⟩ := info_parts intInfo
  have hm : zs.length ≤ maxLen := by unfold maxLen; omega
  obtain ⟨A, c, rfl, _, _⟩ := id h.form
  rcases hf with hf | ⟨b, off, n, c', hf⟩
  · injection hf with e1 e2 e3
    subst e1 e3
    have hz : zs = [] := List.length_eq_zero_iff.1 e2
    subst hz
    refine (Try.slices_Clone_nil _ _ w).mono ?_
    rintro e w' ⟨rfl, rfl⟩
    exact ⟨_, rfl, ⟨by simp, .inl ⟨rfl, rfl⟩⟩, fun _ => rfl, Ext.refl _⟩
  · injection hf with e1 e2 e3
    subst e1 e3
    have hc : ∀ j u, (ivs zs)[j]? = some u → w.cell? ⟨b, off + j, none⟩ = some u := by
      intro j u hj
      obtain ⟨hl, _⟩ := List.getElem?_eq_some_iff.1 hj
      rw [ivs_length] at hl
      obtain ⟨b', off', e', hc⟩ := h.at hl
      cases e'
      exact ints_cells hc j u hj
    refine (Try.slices_Clone i0 _ 1 8 hi hz0 hz1 hz2 rfl (by omega) intSize b off zs.length c (ivs zs) w (by simp) hm (by omega) hc (ivs_one zs)).mono ?_
    rintro e w' ⟨u, rfl, ho, hne, hb⟩
    exact ⟨u, rfl, ho, fun e => absurd e hne, hb⟩
theorem reversed_c (v : Value) (zs : List Int) (w : World) (h : Ints w v zs) (hf : Flat v) (h1 : zs.length ≤ 1048576) :
    Calls Try.prog 36 #[v] w fun e w' => ∃ u, e = .returned u ∧ OwnInts w.heap.size w' u zs.reverse ∧ Ext w w' := by
  obtain ⟨A, c, rfl, _, _⟩ := id h.form
  go_enter Try.func36, Try.ntmps36
  go_wp2_with fail
  refine (CloneF_c _ zs w h hf h1).mono ?_
  rintro e w1 ⟨u, rfl, ho, hne, hx⟩
  by_cases hu : u = .slice none 0 0
  · have hz := hne hu
    subst hu
    subst hz
    go_wp2_with fail
    refine (Try.slices_Reverse_empty (α := Int) none 0 w1).mono ?_
    rintro e w2 ⟨rfl, rfl⟩
    go_wp2
    go_ret
    exact ⟨_, rfl, by simpa using ho, hx⟩
  · obtain ⟨g, cap, rfl, hg, hgl, _, _, _, hH⟩ := Lib.holds_of_ownsRow (enc := Value.int .i64) (zs := zs) ho hu
    go_wp2_with fail
    refine (Try.slices_Reverse (Value.int .i64) (fun _ => rfl) g 0 cap zs w1 hH (by omega)).mono ?_
    rintro e w2 ⟨rfl, q, rfl⟩
    go_wp2
    go_ret
    refine ⟨_, rfl, ?_, Lib.below_putRow hx hg⟩
    have := Lib.ownsRow_putRow (enc := Value.int .i64) (q := q) (ys := zs.reverse) (zs := zs) ho (by simp) (Nat.le_refl _)
    rw [List.take_of_length_le (by simp)] at this
    unfold OwnInts
    rw [List.length_reverse]
    exact this
set_option maxRecDepth 20000 in
theorem Grow0_c (n : Nat) (w : World) (hn : n ≤ 1048576) :
    Calls Try.prog 89 #[.slice none 0 0, .int .i64 n] w fun e w' => ∃ u, e = .returned u ∧ OwnInts w.heap.size w' u [] ∧ Ext w w' := by
  obtain ⟨i0, hi, hz0, hz1, hz2⟩ := info_parts intInfo
  by_cases h0 : n = 0
  · subst h0
    go_enter Try.func89, Try.ntmps89
    go_wp2
    go_ret
    exact ⟨_, rfl, ⟨by simp, .inl ⟨rfl, rfl⟩⟩, Ext.refl _⟩
  · have hbg : 0 < n := by omega
    have h4 : (n : Int) > 0 := by omega
    have hrz : ∀ ty, (Builtin.append_ #[24, 3] ty #[.slice none 0 0, .int .i64 n]).run Try.prog w =
        .ok (.slice (some ⟨w.heap.size, 0, none⟩) n (grownCap w n 0 2)) (w.drew.alloc (.cells (#[] ++ Builtin.zeroCells (Value.int .i64 0).cells n ++ Builtin.zeroCells (Value.int .i64 0).cells (grownCap w n 0 2 - n)) 2)) := fun ty => by
      have h := Lib.run_append_grow_zeros w 24 3 ty 2 i0 _ .i64 .i64 Try.underlying24 Try.underlying3 hi hz0 none 0 0 [] (run_firstCells_none w.drew i0.size 0 0 0) n hbg (by omega) (by omega) (by omega) (by rw [hz2]; omega)
        (growslice_fits (by omega) (by rw [hz2]; omega))
      simpa only [Nat.zero_add] using h
    have hGn : n ≤ grownCap w n 0 2 := grownCap_ge w _ _ _
    have hGm := grownCap_le_maxLen w n 0 2 (by unfold maxLen; omega)
    generalize grownCap w n 0 2 = G at *
    have hG63 : G ≤ 9223372036854775807 := by unfold maxLen at hGm; omega
    have HGm := Lib.hid hGm
    obtain ⟨cs, hcs⟩ : ∃ cs, cs = #[] ++ Builtin.zeroCells (Value.int .i64 0).cells n ++ Builtin.zeroCells (Value.int .i64 0).cells (G - n) := ⟨_, rfl⟩
    rw [← hcs] at hrz
    have HC : Hid (cs.size = G) := by
      unfold Hid
      rw [hcs]
      simp [Builtin.zeroCells, Value.cells]
      omega
    clear hcs hGm hi hz0 hz1 hz2
    go_enter Try.func89, Try.ntmps89
    go_wp2_with (at_builtin; refine Lib.wpList_append_run _ rfl _ _ _ _ rfl _ _ rfl rfl _ _ (hrz _) ?_)
    all_goals
      go_ret
      refine ⟨_, rfl, ⟨by simp, .inr ⟨w.heap.size, G, cs, rfl, Nat.le_refl _, heap_alloc_new w.drew _, Nat.zero_le _, HGm.out, by rw [HC.out]; omega, rfl⟩⟩, (Ext.drew w).trans (Ext.alloc _ _)⟩
end Go.Proofs.Ytkbpchdncljlbaa
end
