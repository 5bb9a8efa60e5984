/- Contract: the rule of a text of a machine with several tapes. The text is that of a rule of a valid machine; the library's tables are as their text lays them.
Contract: a machine with several tapes is read back from its text. The machine is valid; the library's tables are as their text lays them.
Contract of the program's run of a machine with several tapes: the tapes as a block that is known whole. -/
import Derived.Test.YtkbpchdncljlbaaGreatDoorV44
import Derived.Test.YtkbpchdncljlbaaGreatDoorV36
import Derived.Lib.OthersKept
import Derived.Test.YtkbpchdncljlbaaGreatDoorV32
import Derived.Test.YtkbpchdncljlbaaGreatDoorV38
import Derived.Test.YtkbpchdncljlbaaGreatDoorV43
section
set_option linter.unusedSimpArgs false
set_option linter.unusedVariables false
namespace Go.Proofs.YtkbpchdncljlbaaGreatDoor
open Go Go.RowKit Go.Proofs
set_option maxHeartbeats 400000
theorem own_set {W : World} {g : Nat} {t : TypeId} {cs : Array Value} (hb : Blk W g t cs) (ht : t ≠ 2) {base : Nat} {v : Value} {zs : List Int} (o : OwnInts base W v zs) (i : Nat) (u : Value) : OwnInts base (W.setCell ⟨g, i, none⟩ u) v zs :=
  ownsRow_far o (fun q hq e => blk_ne_row hb o ht (by rw [hq, e])) u
theorem own_set5 {W : World} {g : Nat} {t : TypeId} {cs : Array Value} (hb : Blk W g t cs) (ht : t ≠ 2) {base : Nat} {v : Value} {zs : List Int} (o : OwnInts base W v zs) (x0 x1 x2 x3 x4 : Value) :
    OwnInts base (((((W.setCell ⟨g, 0, none⟩ x0).setCell ⟨g, 1, none⟩ x1).setCell ⟨g, 2, none⟩ x2).setCell ⟨g, 3, none⟩ x3).setCell ⟨g, 4, none⟩ x4) v zs :=
  own_set ((((hb.set_ 0 x0).set_ 1 x1).set_ 2 x2).set_ 3 x3) ht (own_set (((hb.set_ 0 x0).set_ 1 x1).set_ 2 x2) ht (own_set ((hb.set_ 0 x0).set_ 1 x1) ht (own_set (hb.set_ 0 x0) ht (own_set hb ht o 0 x0) 1 x1) 2 x2) 3 x3) 4 x4
theorem own_iter {W : World} {base gI i j : Nat} {s : ByteArray} {v : Value} {zs : List Int} (hit : W.heap[gI]? = some (.stringIter s i)) (o : OwnInts base W v zs) : OwnInts base (W.iterAt gI s j) v zs :=
  own_same o fun g hg => Lib.iterAt_other _ _ _ _ _ (fun e => by
    subst e
    rcases o.2 with ⟨rfl, _⟩ | ⟨g', cap, cur, rfl, _, hh, _⟩
    · simp [Value.ownBlock] at hg
    · simp [Value.ownBlock] at hg
      subst hg
      rw [hit] at hh
      cases hh)
theorem blk_iter {W : World} {gI i j g : Nat} {s : ByteArray} {t : TypeId} {cs : Array Value} (hit : W.heap[gI]? = some (.stringIter s i)) (b : Blk W g t cs) : Blk (W.iterAt gI s j) g t cs :=
  (Lib.iterAt_other _ _ _ _ _ (fun e => by
    subst e
    unfold Blk at b
    rw [hit] at b
    cases b)).trans b
/-- While the moves are read: k of them are in the rule, the iterator stands at i. -/
structure RuI (w : World) (gR gS gM gI : Nat) (r : MRuleD) (u1 u2 v : Value) (k i : Nat) (W : World) : Prop where
  res : Blk W gR 64 #[.int .i64 0, .slice none 0 0, .slice none 0 0, .slice none 0 0, .int .i64 0]
  str : Blk W gS 9 (svB (mruP r)).toArray
  cur : Blk W gM 64 #[.int .i64 r.st, u1, u2, v, .int .i64 0]
  o1 : OwnInts w.heap.size W u1 r.rd
  o2 : OwnInts w.heap.size W u2 r.wr
  l1 : ∀ g, u1.ownBlock = some g → g < gI
  l2 : ∀ g, u2.ownBlock = some g → g < gI
  ov : OwnInts (gI + 1) W v (r.mv.take k)
  it : W.heap[gI]? = some (.stringIter (bsS (mvB r.mv)) i)
  ext : Ext w W
section
variable {w W W' : World} {gR gS gM gI : Nat} {r : MRuleD} {u1 u2 v v' : Value} {k i : Nat}
theorem RuI.ext' (h : RuI w gR gS gM gI r u1 u2 v k i W) (he : Ext W W') : RuI w gR gS gM gI r u1 u2 v k i W' :=
  ⟨h.res.ext he, h.str.ext he, h.cur.ext he, OwnInts.ext h.o1 he, OwnInts.ext h.o2 he, h.l1, h.l2, OwnInts.ext h.ov he, he.block h.it, h.ext.trans he⟩
theorem RuI.iter (h : RuI w gR gS gM gI r u1 u2 v k i W) (hw : w.heap.size ≤ gI) (j : Nat) : RuI w gR gS gM gI r u1 u2 v k j (W.iterAt gI (bsS (mvB r.mv)) j) :=
  ⟨blk_iter h.it h.res, blk_iter h.it h.str, blk_iter h.it h.cur, own_iter h.it h.o1, own_iter h.it h.o2, h.l1, h.l2, own_iter h.it h.ov, Lib.iterAt_heap _ _ _ _ _ h.it, Lib.below_iterAt h.ext hw _ _⟩
theorem RuI.push (h : RuI w gR gS gM gI r u1 u2 v k i W) (hlt : k < r.mv.length) (h1 : gR ≠ gM) (h2 : gS ≠ gM) (h3 : gI ≠ gM) (hw : w.heap.size ≤ gM) (hw2 : w.heap.size ≤ gI)
    (ho : W'.ownsRow (gI + 1) 2 1 v' (k + 1) (ivs (r.mv.take k) ++ [.int .i64 r.mv[k]])) (hg : W.grownBy W' v.ownBlock) : RuI w gR gS gM gI r u1 u2 v' (k + 1) i (W'.setCell ⟨gM, 3, none⟩ v') := by
  have hov := h.ov
  have hl : ∀ g, v.ownBlock = some g → gI + 1 ≤ g ∧ g < W.heap.size := fun g hgb => World.ownsRow.lt hov g hgb
  have bR := h.res.apart hov (by decide) hg
  have bS := h.str.apart hov (by decide) hg
  have bM := h.cur.apart hov (by decide) hg
  have hk : ∀ {base : Nat} {u : Value} {zs : List Int}, (∀ g, u.ownBlock = some g → g < gI) → OwnInts base W u zs → OwnInts base W' u zs := fun {base u zs} hu o =>
    own_same o fun g hgb => hg.block g (World.ownsRow.lt o g hgb).2 (fun e => by have := hl g e.symm; have := hu g hgb; omega)
  have o1 := hk h.l1 h.o1
  have o2 := hk h.l2 h.o2
  have hit : W'.heap[gI]? = some (.stringIter (bsS (mvB r.mv)) i) := (hg.block gI (Array.getElem?_eq_some_iff.1 h.it).1 (fun e => by have := hl gI e.symm; omega)).trans h.it
  have ov : OwnInts (gI + 1) W' v' (r.mv.take (k + 1)) := by
    unfold OwnInts
    have e : ivs (r.mv.take (k + 1)) = ivs (r.mv.take k) ++ [.int .i64 r.mv[k]] := by
      unfold ivs
      rw [List.take_succ_eq_append_getElem hlt, List.map_append]
      rfl
    have el : (r.mv.take (k + 1)).length = k + 1 := by rw [List.length_take]; omega
    rw [e, el]
    exact ho
  exact ⟨bR.far (p := ⟨gM, 3, none⟩) h1 _, bS.far (p := ⟨gM, 3, none⟩) h2 _, bM.set_ 3 _, own_set bM (by decide) o1 3 _, own_set bM (by decide) o2 3 _, h.l1, h.l2, own_set bM (by decide) ov 3 _,
    (Below.heap_setCell _ _ _ _ (by exact h3)).trans hit, (h.ext.grown hg (fun g hgb => by have := hl g hgb; omega)).setCell (p := ⟨gM, 3, none⟩) hw _⟩
end
set_option maxRecDepth 20000 in
set_option maxHeartbeats 8000000 in
theorem readMultiRule_c (r : MRuleD) (w : World) (q1 : 0 ≤ r.st ∧ r.st ≤ 1000) (n1 : 0 ≤ r.nx ∧ r.nx ≤ 1000) (l1 : r.rd.length ≤ 3) (l2 : r.wr.length ≤ 3) (l3 : r.mv.length ≤ 3)
    (p1 : ∀ z ∈ r.rd, 0 ≤ z ∧ z ≤ 9) (p2 : ∀ z ∈ r.wr, 0 ≤ z ∧ z ≤ 9) (p3 : ∀ z ∈ r.mv, -1 ≤ z ∧ z ≤ 1) (hT : Tab w) (hML : MaxL w) :
    Calls Tryz.prog 26 #[.string (bsS (mruT r))] w fun e w' => ∃ v, e = .returned v ∧ OwnRul w.heap.size w' v r ∧ Ext w w' := by
  obtain ⟨i0, hi, hz0, hz1, hz2⟩ := info_parts intInfo
  obtain ⟨g, hg⟩ : ∃ g, w.heap.size = g := ⟨_, rfl⟩
  obtain ⟨W1, hW1⟩ : ∃ W, W = w.alloc (.cells #[.int .i64 0, .slice none 0 0, .slice none 0 0, .slice none 0 0, .int .i64 0] 64) := ⟨_, rfl⟩
  have hX1 : Ext w W1 := by rw [hW1]; exact Ext.alloc _ _
  have hz1' : W1.heap.size = g + 1 := by rw [hW1]; simp [hg]
  have bR1 : Blk W1 g 64 #[.int .i64 0, .slice none 0 0, .slice none 0 0, .slice none 0 0, .int .i64 0] := by rw [hW1]; exact Blk.new _ _ _ _ hg
  have hsp := SplitT_c 32 (mruP r) (by simp [mruP]) (fun q hq => (mruP_no q1.1 n1.1 p1 p2 q hq).2) W1 (hML.ext hX1) (by
    rw [mruP_join]
    have := mruT_len q1 n1 ⟨l1, l2, l3⟩
    simp at this
    omega)
  rw [mruP_join, hz1', show (mruP r).length = 5 from rfl] at hsp
  have HG := Lib.hid hg
  go_enter Tryz.func26, Tryz.ntmps26
  go_wp2_with fail
  try rw [← hW1]
  try rw [hg]
  clear hW1
  go_at_call 24
  refine hsp.mono ?_
  rintro e W2 ⟨rfl, hW2⟩
  have hX2 : Ext W1 W2 := by rw [hW2]; exact Ext.alloc _ _
  have hz2' : W2.heap.size = g + 2 := by rw [hW2]; simp [hz1']
  have bS2 : Blk W2 (g + 1) 9 (svB (mruP r)).toArray := by rw [hW2]; exact Blk.new _ _ _ _ hz1'
  have bR2 := bR1.ext hX2
  obtain ⟨W3, hW3⟩ : ∃ W, W = W2.alloc (.cells #[.int .i64 0, .slice none 0 0, .slice none 0 0, .slice none 0 0, .int .i64 0] 64) := ⟨_, rfl⟩
  have hX3 : Ext W2 W3 := by rw [hW3]; exact Ext.alloc _ _
  have bM3 : Blk W3 (g + 2) 64 #[.int .i64 0, .slice none 0 0, .slice none 0 0, .slice none 0 0, .int .i64 0] := by rw [hW3]; exact Blk.new _ _ _ _ hz2'
  have bS3 := bS2.ext hX3
  have bR3 := bR2.ext hX3
  have hXX3 := (hX1.trans hX2).trans hX3
  have k0 : W3.cell? ⟨g + 1, 0, none⟩ = some (.string (itoaS r.st)) := bS3.cell 0
  have R0 := ReadDecimal_c r.st W3 q1.1 (by omega) (hT.ext hXX3)
  clear hsp hW2 bS2 bR2 bR1 hX1 hX2 hX3 hz1'
  go_upto_region 5 with fail
  try rw [← hW3]
  try rw [hz2']
  clear hW3
  go_wp2_with fail
  refine R0.mono ?_
  rintro e w4 ⟨rfl, hx4⟩
  have b4 := bM3.ext hx4
  have g0 : w4.cell? ⟨g + 2, 0, none⟩ = some (.int .i64 0) := b4.cell 0
  have fz := b4.frozen 0
  obtain ⟨W5, hW5⟩ : ∃ W, W = w4.setCell ⟨g + 2, 0, none⟩ (.int .i64 r.st) := ⟨_, rfl⟩
  have hle : w.heap.size ≤ g + 2 := by omega
  have hX5 : Ext w W5 := by rw [hW5]; exact (hXX3.trans hx4).setCell (p := ⟨g + 2, 0, none⟩) hle _
  have bM5 : Blk W5 (g + 2) 64 #[.int .i64 r.st, .slice none 0 0, .slice none 0 0, .slice none 0 0, .int .i64 0] := by rw [hW5]; exact b4.set_ 0 _
  have nS : g + 1 ≠ g + 2 := by omega
  have nR : g ≠ g + 2 := by omega
  have bS5 : Blk W5 (g + 1) 9 (svB (mruP r)).toArray := by rw [hW5]; exact (bS3.ext hx4).far (p := ⟨g + 2, 0, none⟩) nS _
  have bR5 : Blk W5 g 64 #[.int .i64 0, .slice none 0 0, .slice none 0 0, .slice none 0 0, .int .i64 0] := by rw [hW5]; exact (bR3.ext hx4).far (p := ⟨g + 2, 0, none⟩) nR _
  have k1 : W5.cell? ⟨g + 1, 1, none⟩ = some (.string (bsS (digB r.rd))) := bS5.cell 1
  have R1 := readDigits_c r.rd W5 p1 (by omega)
  clear R0 k0 hx4 b4 bS3 bR3 bM3
  go_upto_region 6 with fail
  try rw [← hW5]
  clear hW5 g0 fz
  go_wp2_with fail
  refine R1.mono ?_
  rintro e w6 ⟨u1, rfl, o1, hx6⟩
  obtain ⟨A1, c1, rfl, _, _⟩ := id o1.ints.form
  have b6 := bM5.ext hx6
  have g0 : w6.cell? ⟨g + 2, 1, none⟩ = some (.slice none 0 0) := b6.cell 1
  have fz := b6.frozen 1
  obtain ⟨W7, hW7⟩ : ∃ W, W = w6.setCell ⟨g + 2, 1, none⟩ (.slice A1 r.rd.length c1) := ⟨_, rfl⟩
  have hX7 : Ext w W7 := by rw [hW7]; exact (hX5.trans hx6).setCell (p := ⟨g + 2, 1, none⟩) hle _
  have bM7 : Blk W7 (g + 2) 64 #[.int .i64 r.st, .slice A1 r.rd.length c1, .slice none 0 0, .slice none 0 0, .int .i64 0] := by rw [hW7]; exact b6.set_ 1 _
  have bS7 : Blk W7 (g + 1) 9 (svB (mruP r)).toArray := by rw [hW7]; exact (bS5.ext hx6).far (p := ⟨g + 2, 1, none⟩) nS _
  have bR7 : Blk W7 g 64 #[.int .i64 0, .slice none 0 0, .slice none 0 0, .slice none 0 0, .int .i64 0] := by rw [hW7]; exact (bR5.ext hx6).far (p := ⟨g + 2, 1, none⟩) nR _
  have o17 : OwnInts w.heap.size W7 (.slice A1 r.rd.length c1) r.rd := by rw [hW7]; exact own_set b6 (by decide) (ownsRow_base o1 hX5.size) 1 _
  have k2 : W7.cell? ⟨g + 1, 2, none⟩ = some (.string (bsS (digB r.wr))) := bS7.cell 2
  have R2 := readDigits_c r.wr W7 p2 (by omega)
  clear R1 k1 hx6 b6 bS5 bR5 bM5 o1
  go_upto_region 7 with fail
  try rw [← hW7]
  clear hW7 g0 fz
  go_wp2_with fail
  refine R2.mono ?_
  rintro e w8 ⟨u2, rfl, o2, hx8⟩
  obtain ⟨A2, c2, rfl, _, _⟩ := id o2.ints.form
  have b8 := bM7.ext hx8
  have g0 : w8.cell? ⟨g + 2, 2, none⟩ = some (.slice none 0 0) := b8.cell 2
  have fz := b8.frozen 2
  obtain ⟨W9, hW9⟩ : ∃ W, W = w8.setCell ⟨g + 2, 2, none⟩ (.slice A2 r.wr.length c2) := ⟨_, rfl⟩
  have hX9 : Ext w W9 := by rw [hW9]; exact (hX7.trans hx8).setCell (p := ⟨g + 2, 2, none⟩) hle _
  have bM9 : Blk W9 (g + 2) 64 #[.int .i64 r.st, .slice A1 r.rd.length c1, .slice A2 r.wr.length c2, .slice none 0 0, .int .i64 0] := by rw [hW9]; exact b8.set_ 2 _
  have bS9 : Blk W9 (g + 1) 9 (svB (mruP r)).toArray := by rw [hW9]; exact (bS7.ext hx8).far (p := ⟨g + 2, 2, none⟩) nS _
  have bR9 : Blk W9 g 64 #[.int .i64 0, .slice none 0 0, .slice none 0 0, .slice none 0 0, .int .i64 0] := by rw [hW9]; exact (bR7.ext hx8).far (p := ⟨g + 2, 2, none⟩) nR _
  have o19 : OwnInts w.heap.size W9 (.slice A1 r.rd.length c1) r.rd := by rw [hW9]; exact own_set b8 (by decide) (OwnInts.ext o17 hx8) 2 _
  have o29 : OwnInts w.heap.size W9 (.slice A2 r.wr.length c2) r.wr := by rw [hW9]; exact own_set b8 (by decide) (ownsRow_base o2 hX7.size) 2 _
  have k3 : W9.cell? ⟨g + 1, 3, none⟩ = some (.string (bsS (mvB r.mv))) := bS9.cell 3
  obtain ⟨gI, hgI⟩ : ∃ gI, W9.heap.size = gI := ⟨_, rfl⟩
  have hwI : w.heap.size ≤ gI := by rw [← hgI]; exact hX9.size
  have st0 : RuI w g (g + 1) (g + 2) gI r (.slice A1 r.rd.length c1) (.slice A2 r.wr.length c2) (.slice none 0 0) 0 0 (W9.iter (bsS (mvB r.mv)) 0) := by
    have hXi : Ext W9 (W9.iter (bsS (mvB r.mv)) 0) := Ext.alloc _ _
    exact ⟨bR9.ext hXi, bS9.ext hXi, bM9.ext hXi, OwnInts.ext o19 hXi, OwnInts.ext o29 hXi, fun q hq => by rw [← hgI]; exact (World.ownsRow.lt o19 q hq).2, fun q hq => by rw [← hgI]; exact (World.ownsRow.lt o29 q hq).2,
      ⟨by simp [ivs], .inl ⟨rfl, rfl⟩⟩, by rw [← hgI]; exact World.iter_heap _ _ _, hX9.trans hXi⟩
  have hIM : g + 2 < gI := by rw [← hgI]; exact bM9.lt
  clear R2 k2 hx8 b8 bS7 bR7 bM7 o2 o17 bR9 bS9 bM9 o19 o29 hX5 hX7 hX9 hXX3
  go_upto_region 8 with fail
  try rw [← hW9]
  clear hW9 g0 fz
  go_wp2_with fail
  try rw [hgI]
  clear k3
  go_loopw [6] (fun lt wr => ∃ (k : Nat) (v : Value), k ≤ r.mv.length ∧ RuI w g (g + 1) (g + 2) gI r (.slice A1 r.rd.length c1) (.slice A2 r.wr.length c2) v k k wr) (fun _ wr => r.mv.length - wr.iterPos gI)
  case atStart => exact ⟨0, _, Nat.zero_le _, st0⟩
  case round =>
    clear st0
    obtain ⟨k, v, hk, st⟩ := hrel
    have hpos0 : wr.iterPos gI = k := by simp [World.iterPos, st.it]
    by_cases hlt : k < r.mv.length
    · obtain ⟨hks, hb⟩ := mvB_get hlt
      have hzb := p3 _ (List.getElem_mem hlt)
      have hnx := fun ty => Lib.run_next_ascii_at (P := Tryz.prog) wr gI (bsS (mvB r.mv)) k ty st.it hks (by rw [hb]; exact mvU_lt _)
      rw [hb] at hnx
      have st1 := st.iter hwI (k + 1)
      obtain ⟨W1, hW1⟩ : ∃ W1, W1 = wr.iterAt gI (bsS (mvB r.mv)) (k + 1) := ⟨_, rfl⟩
      rw [← hW1] at hnx st1
      obtain ⟨z, hz⟩ : ∃ z, r.mv[k] = z := ⟨_, rfl⟩
      rw [hz] at hnx hzb
      have HZ := Lib.hid hz
      have zm : W1.drew.cell? ⟨g + 2, 3, none⟩ = some v := st1.cur.cell 3
      have hov := st1.ov
      unfold OwnInts at hov
      have hlk : (r.mv.take k).length = k := by rw [List.length_take]; omega
      rw [hlk] at hov
      obtain ⟨Av, cv, rfl, _, _, _⟩ := (ownsRow_row hov).form
      have IR := indexRune_c z W1.drew hzb
      have hwz : IntKind.i64.wrap z = z := IntWalk.i64_in _ (by omega)
      have hzz : z + 1 - 1 = z := by omega
      clear hW1 hb st hlk hz
      go_wp2_with fail
      refine wp_region_ordT 6 (readsT [0, 1, 2] (.stir 3 (readsT [4] (.stir 5 .done)))) (by kernel_rfl) (by kernel_rfl) (fun _ _ _ _ _ h => h) ?_
      simp only [readsT]
      iterate 3 (refine wpOrdT_read (v := ?_) (by rfl) (Or.inl ⟨by rfl, fun x hx => ?_⟩) ?_; rotate_left; (· have a0 := hx.cell zm; go_simp; try with_reducible rfl); try simp only [Act.put, List.setIfInBounds_toArray, List.set_cons_zero, List.set_cons_succ])
      refine wpOrdT_stir (by rfl) (fun K hK => ?_)
      go_simp
      go_at_call 60
      refine IR.mono ?_
      rintro e w3 ⟨rfl, rfl⟩
      refine hK _ _ (Ext.refl _) ?_
      clear hK K IR
      try simp only [Act.put, List.setIfInBounds_toArray, List.set_cons_zero, List.set_cons_succ]
      refine wpOrdT_read (v := .int .i64 z) (by rfl) (Or.inl ⟨by rfl, fun x hx => ?_⟩) ?_
      · go_simp
        try rw [hzz]
        try rw [hwz]
      try simp only [Act.put, List.setIfInBounds_toArray, List.set_cons_zero, List.set_cons_succ]
      refine wpOrdT_stir (by rfl) (fun K hK => ?_)
      go_simp
      have eA := Ext.alloc W1.drew (.cells #[.int .i64 z] 2)
      refine hK _ _ eA ?_
      clear hK K
      try simp only [Act.put, List.setIfInBounds_toArray, List.set_cons_zero, List.set_cons_succ]
      refine wpOrdT_done ?_
      try simp only [List.drop_succ_cons, List.drop_zero]
      have zD := Ext.drew W1
      have st2 := st1.ext' (zD.trans eA)
      have hovD := ownsRow_ext hov zD
      have hsz : gI + 1 ≤ W1.drew.heap.size := by have := (Array.getElem?_eq_some_iff.1 st1.it).1; exact this
      clear zm
      go_wp2_with (at_builtin; refine wpList_append_own_at _ rfl _ _ 48 rfl (gI + 1) 2 i0 (.int .i64 0) 1 8 Tryz.underlying48 hi hz0 hz1 hz2 rfl (by decide) _ _ _ rfl (hovD.alloc _) ⟨W1.drew.heap.size, 0, none⟩ 1 1 [.int .i64 z] rfl rfl (cell_one_new _ _ _) ?c2 ?c3 ?c4 ?c5 ?_)
      case c2 => intro u hu; simp at hu; subst hu; rfl
      case c3 => unfold maxLen; omega
      case c4 => omega
      case c5 => simp; (have hsz2 : gI + 1 ≤ W1.heap.size := hsz); omega
      intro v' w7 hown7 hg7 _ _
      obtain ⟨A7, c7, rfl, _, _, _⟩ := (ownsRow_row hown7).form
      have hRM : g ≠ g + 2 := by omega
      have hSM : g + 1 ≠ g + 2 := by omega
      have hIM' : gI ≠ g + 2 := by omega
      have b7 := st2.cur.apart st2.ov (by decide) hg7
      have st3 := st2.push hlt hRM hSM hIM' (by omega) hwI (by rw [HZ.out]; exact hown7) hg7
      have cB := b7.cell
      have cF := b7.frozen
      clear b7 st2 hown7 hg7 hovD hov eA zD st1
      go_wp2_with fail
      go_roundw
      case rel => exact ⟨k + 1, _, by omega, st3⟩
      case measure =>
        have : (w7.setCell ⟨g + 2, 3, none⟩ (.slice A7 (k + 1) c7)).iterPos gI = k + 1 := by simp [World.iterPos, st3.it]
        rw [hpos0, this]
        omega
    · obtain rfl : k = r.mv.length := by omega
      have hnx := fun ty => Lib.run_next_end_at (P := Tryz.prog) wr gI (bsS (mvB r.mv)) r.mv.length ty st.it (by rw [mvB_size]; omega)
      have hov := st.ov
      rw [List.take_length] at hov
      obtain ⟨Av, cv, rfl, _, _⟩ := hov.ints.form
      have k4 : wr.cell? ⟨g + 1, 4, none⟩ = some (.string (itoaS r.nx)) := st.str.cell 4
      have R4 := ReadDecimal_c r.nx wr n1.1 (by omega) (hT.ext st.ext)
      have ST := Lib.hid st
      have HOV := Lib.hid hov
      clear st hov
      go_wp2_with fail
      refine R4.mono ?_
      rintro e w8 ⟨rfl, hx8⟩
      have st8 := ST.out.ext' hx8
      have ov8 := OwnInts.ext HOV.out hx8
      have b8 := st8.cur
      have g0 : w8.cell? ⟨g + 2, 4, none⟩ = some (.int .i64 0) := b8.cell 4
      have fz := b8.frozen 4
      obtain ⟨W9, hW9⟩ : ∃ W, W = w8.setCell ⟨g + 2, 4, none⟩ (.int .i64 r.nx) := ⟨_, rfl⟩
      have nR : g ≠ g + 2 := by omega
      have bM9 : Blk W9 (g + 2) 64 #[.int .i64 r.st, .slice A1 r.rd.length c1, .slice A2 r.wr.length c2, .slice Av r.mv.length cv, .int .i64 r.nx] := by rw [hW9]; exact b8.set_ 4 _
      have bR9 : Blk W9 g 64 #[.int .i64 0, .slice none 0 0, .slice none 0 0, .slice none 0 0, .int .i64 0] := by rw [hW9]; exact st8.res.far (p := ⟨g + 2, 4, none⟩) nR _
      have o1 : OwnInts w.heap.size W9 (.slice A1 r.rd.length c1) r.rd := by rw [hW9]; exact own_set b8 (by decide) st8.o1 4 _
      have o2 : OwnInts w.heap.size W9 (.slice A2 r.wr.length c2) r.wr := by rw [hW9]; exact own_set b8 (by decide) st8.o2 4 _
      have o3 : OwnInts w.heap.size W9 (.slice Av r.mv.length cv) r.mv := by rw [hW9]; exact own_set b8 (by decide) (ownsRow_base ov8 (by omega)) 4 _
      have hX9 : Ext w W9 := by rw [hW9]; exact st8.ext.setCell (p := ⟨g + 2, 4, none⟩) (by show w.heap.size ≤ g + 2; omega) _
      clear k4 R4 st8 ov8 b8
      go_upto_region 13 with fail
      try rw [← hW9]
      clear hW9 g0 fz
      have s0 : W9.cell? ⟨g + 2, 0, none⟩ = some (.int .i64 r.st) := bM9.cell 0
      have s1 : W9.cell? ⟨g + 2, 1, none⟩ = some (.slice A1 r.rd.length c1) := bM9.cell 1
      have s2 : W9.cell? ⟨g + 2, 2, none⟩ = some (.slice A2 r.wr.length c2) := bM9.cell 2
      have s3 : W9.cell? ⟨g + 2, 3, none⟩ = some (.slice Av r.mv.length cv) := bM9.cell 3
      have s4 : W9.cell? ⟨g + 2, 4, none⟩ = some (.int .i64 r.nx) := bM9.cell 4
      have z0 := bR9.cell
      have zf := bR9.frozen
      have d := (((((bR9.set_ 0 (.int .i64 r.st)).set_ 1 (.slice A1 r.rd.length c1)).set_ 2 (.slice A2 r.wr.length c2)).set_ 3 (.slice Av r.mv.length cv)).set_ 4 (.int .i64 r.nx)).cell
      have HO1 := Lib.hid (own_set5 bR9 (by decide) o1 (.int .i64 r.st) (.slice A1 r.rd.length c1) (.slice A2 r.wr.length c2) (.slice Av r.mv.length cv) (.int .i64 r.nx))
      have HO2 := Lib.hid (own_set5 bR9 (by decide) o2 (.int .i64 r.st) (.slice A1 r.rd.length c1) (.slice A2 r.wr.length c2) (.slice Av r.mv.length cv) (.int .i64 r.nx))
      have HO3 := Lib.hid (own_set5 bR9 (by decide) o3 (.int .i64 r.st) (.slice A1 r.rd.length c1) (.slice A2 r.wr.length c2) (.slice Av r.mv.length cv) (.int .i64 r.nx))
      have hgg : w.heap.size ≤ g := by omega
      have HX := Lib.hid (((((hX9.setCell (p := ⟨g, 0, none⟩) hgg (.int .i64 r.st)).setCell (p := ⟨g, 1, none⟩) hgg (.slice A1 r.rd.length c1)).setCell (p := ⟨g, 2, none⟩) hgg (.slice A2 r.wr.length c2)).setCell (p := ⟨g, 3, none⟩) hgg (.slice Av r.mv.length cv)).setCell (p := ⟨g, 4, none⟩) hgg (.int .i64 r.nx))
      clear o1 o2 o3 hX9
      go_wp2_with fail
      refine bodyPost_ret (v := .agg #[.int .i64 r.st, .slice A1 r.rd.length c1, .slice A2 r.wr.length c2, .slice Av r.mv.length cv, .int .i64 r.nx]) (by simp [results, Tryz.results26, go_sem, d]) rfl ⟨_, rfl, ⟨_, _, _, rfl, HO1.out, HO2.out, HO3.out⟩, HX.out⟩
end Go.Proofs.YtkbpchdncljlbaaGreatDoor
end
section
set_option linter.unusedSimpArgs false
set_option linter.unusedVariables false
namespace Go.Proofs.YtkbpchdncljlbaaGreatDoor
open Go Go.RowKit Go.Proofs
set_option maxHeartbeats 400000
/-- While the rules are read. -/
structure RdM (w : World) (gR gS gM : Nat) (m : MultiD) (v : Value) (rs : List MRuleD) (W : World) : Prop where
  res : Blk W gR 26 #[.int .i64 0, .int .i64 0, .int .i64 0, .slice none 0 0]
  str : Blk W gS 9 (svB (mltP m m.rules.length)).toArray
  cur : Blk W gM 26 #[.int .i64 m.tp, .int .i64 m.sy, .int .i64 m.st, v]
  own : OwnMR w.heap.size W v rs
  ext : Ext w W
section
variable {w W W' : World} {gR gS gM : Nat} {m : MultiD} {v v' : Value} {rs : List MRuleD}
theorem RdM.ext' (h : RdM w gR gS gM m v rs W) (he : Ext W W') : RdM w gR gS gM m v rs W' :=
  ⟨h.res.ext he, h.str.ext he, h.cur.ext he, h.own.ext he, h.ext.trans he⟩
theorem RdM.push {r : MRuleD} {cl : List Value} {x1 x2 x3 : Value} (h : RdM w gR gS gM m v rs W) (h1 : gR ≠ gM) (h2 : gS ≠ gM) (hw : w.heap.size ≤ gM)
    (ho : W.ownsRow w.heap.size 64 5 v rs.length cl) (hcl : MCells w.heap.size W cl rs) (o1 : OwnInts w.heap.size W x1 r.rd) (o2 : OwnInts w.heap.size W x2 r.wr) (o3 : OwnInts w.heap.size W x3 r.mv)
    (hown : W'.ownsRow w.heap.size 64 5 v' (rs.length + 1) (cl ++ mcell r x1 x2 x3)) (hg : W.grownBy W' v.ownBlock) :
    RdM w gR gS gM m v' (rs ++ [r]) (W'.setCell ⟨gM, 3, none⟩ v') ∧ Blk W' gM 26 #[.int .i64 m.tp, .int .i64 m.sy, .int .i64 m.st, v] := by
  have hs : OwnMR w.heap.size W' v' (rs ++ [r]) := OwnMR.push ho hcl (MCells.one o1 o2 o3) (by simp) hown hg
  have bR := h.res.apart ho (by decide) hg
  have bS := h.str.apart ho (by decide) hg
  have bM := h.cur.apart ho (by decide) hg
  exact ⟨⟨bR.far (p := ⟨gM, 3, none⟩) h1 _, bS.far (p := ⟨gM, 3, none⟩) h2 _, bM.set_ 3 _, hs.far bM (by decide) (by decide) 3 _, (h.ext.grown hg (fun g hgb => (World.ownsRow.lt ho g hgb).1)).setCell (p := ⟨gM, 3, none⟩) hw _⟩, bM⟩
theorem mr_set4 {W : World} {g : Nat} {t : TypeId} {cs : Array Value} (hb : Blk W g t cs) (h1 : t ≠ 64) (h2 : t ≠ 2) {base : Nat} {v : Value} {rs : List MRuleD} (o : OwnMR base W v rs) (x0 x1 x2 x3 : Value) :
    OwnMR base ((((W.setCell ⟨g, 0, none⟩ x0).setCell ⟨g, 1, none⟩ x1).setCell ⟨g, 2, none⟩ x2).setCell ⟨g, 3, none⟩ x3) v rs :=
  (((o.far hb h1 h2 0 x0).far (hb.set_ 0 x0) h1 h2 1 x1).far ((hb.set_ 0 x0).set_ 1 x1) h1 h2 2 x2).far (((hb.set_ 0 x0).set_ 1 x1).set_ 2 x2) h1 h2 3 x3
end
theorem mltP_len (m : MultiD) : (mltP m m.rules.length).length = m.rules.length + 1 := by simp [mltP]
theorem mltP_get {m : MultiD} {k : Nat} (hk : k < m.rules.length) : (svB (mltP m m.rules.length))[1 + k]? = some (.string (bsS (mruT m.rules[k]))) := by
  rw [Nat.add_comm]
  simp [svB, mltP, hk]
set_option maxRecDepth 20000 in
set_option maxHeartbeats 8000000 in
theorem ReadMulti_c (m : MultiD) (w : World) (hm : multiOk m = true) (hT : Tab w) (hML : MaxL w) :
    Calls Tryz.prog 8 #[.string (bsS (mltT m))] w fun e w' => ∃ rv, e = .returned (.tuple #[.agg #[.int .i64 m.tp, .int .i64 m.sy, .int .i64 m.st, rv], .bool true]) ∧ OwnMR w.heap.size w' rv m.rules ∧ Ext w w' := by
  obtain ⟨i0, hi0, hz0, hz1, hz2⟩ := info_parts mruleInfo
  obtain ⟨⟨t1, t2⟩, ⟨y1, y2⟩, ⟨s1, s2⟩, hl, _⟩ := multi_all hm
  obtain ⟨g, hg⟩ : ∃ g, w.heap.size = g := ⟨_, rfl⟩
  obtain ⟨N, hN⟩ : ∃ N, m.rules.length = N := ⟨_, rfl⟩
  obtain ⟨W1, hW1⟩ : ∃ W, W = w.alloc (.cells #[.int .i64 0, .int .i64 0, .int .i64 0, .slice none 0 0] 26) := ⟨_, rfl⟩
  have hX1 : Ext w W1 := by rw [hW1]; exact Ext.alloc _ _
  have hz1' : W1.heap.size = g + 1 := by rw [hW1]; simp [hg]
  have bR1 : Blk W1 g 26 #[.int .i64 0, .int .i64 0, .int .i64 0, .slice none 0 0] := by rw [hW1]; exact Blk.new _ _ _ _ hg
  have hsp := SplitT_c 10 (mltP m m.rules.length) (by rw [mltP_len]; omega) (mltP_no hm) W1 (hML.ext hX1) (by
    rw [mltP_join]
    have := mltT_len hm
    omega)
  rw [mltP_join, hz1', mltP_len] at hsp
  have HM := Lib.hid hm
  have HN := Lib.hid hN
  rw [hN] at hl
  obtain ⟨L, hL⟩ : ∃ L, m.rules.length + 1 = L := ⟨_, rfl⟩
  have hLN : Hid (L = N + 1) := Lib.hid (by omega)
  rw [hL] at hsp
  have HL := Lib.hid hL
  have hle61 : decide ((61 : Int) < (L : Int)) = false := decide_eq_false (by omega)
  have hL1 : 1 ≤ L := by omega
  have hL1' : (1 : Int) ≤ (L : Int) := by omega
  clear hL hN
  clear hm
  go_enter Tryz.func8, Tryz.ntmps8
  go_wp2_with fail
  try rw [← hW1]
  try rw [hg]
  clear hW1
  go_at_call 24
  refine hsp.mono ?_
  rintro e W2 ⟨rfl, hW2⟩
  have hX2 : Ext W1 W2 := by rw [hW2]; exact Ext.alloc _ _
  have hz2' : W2.heap.size = g + 1 + 1 := by rw [hW2]; simp [hz1']
  have bS2 : Blk W2 (g + 1) 9 (svB (mltP m m.rules.length)).toArray := by rw [hW2]; exact Blk.new _ _ _ _ hz1'
  have bR2 := bR1.ext hX2
  have hX12 := hX1.trans hX2
  have k0 : W2.cell? ⟨g + 1, 0, none⟩ = some (.string (bsS (mheT m))) := bS2.cell 0
  have hs2 := SplitT_c 32 (mheP m) (by simp [mheP]) (fun q hq => (mheP_no (by omega) (by omega) (by omega) q hq).2) W2 (hML.ext hX12) (by
    rw [mheP_join]
    have z0 := itoaS_size (n := m.tp) (by omega) (by omega)
    have z1 := itoaS_size (n := m.sy) (by omega) (by omega)
    have z2 := itoaS_size (n := m.st) (by omega) (by omega)
    rw [itoaS_bs, bs_size] at z0 z1 z2
    simp [mheT]
    omega)
  rw [mheP_join, hz2', show (mheP m).length = 3 from rfl] at hs2
  clear hsp hW2 bR1 hX1 hX2 hz1'
  go_wp2_with fail
  go_at_call 24
  refine hs2.mono ?_
  rintro e W3 ⟨rfl, hW3⟩
  have hX3 : Ext W2 W3 := by rw [hW3]; exact Ext.alloc _ _
  have hz3' : W3.heap.size = g + 1 + 1 + 1 := by rw [hW3]; simp [hz2']
  have bH3 : Blk W3 (g + 1 + 1) 9 (svB (mheP m)).toArray := by rw [hW3]; exact Blk.new _ _ _ _ hz2'
  have bS3 := bS2.ext hX3
  have bR3 := bR2.ext hX3
  have hX13 := hX12.trans hX3
  obtain ⟨W4, hW4⟩ : ∃ W, W = W3.alloc (.cells #[.int .i64 0, .int .i64 0, .int .i64 0, .slice none 0 0] 26) := ⟨_, rfl⟩
  have hX4 : Ext W3 W4 := by rw [hW4]; exact Ext.alloc _ _
  have bM4 : Blk W4 (g + 1 + 1 + 1) 26 #[.int .i64 0, .int .i64 0, .int .i64 0, .slice none 0 0] := by rw [hW4]; exact Blk.new _ _ _ _ hz3'
  have bH4 := bH3.ext hX4
  have bS4 := bS3.ext hX4
  have bR4 := bR3.ext hX4
  have hX14 := hX13.trans hX4
  have j0 : W4.cell? ⟨g + 1 + 1, 0, none⟩ = some (.string (itoaS m.tp)) := bH4.cell 0
  have R0 := ReadDecimal_c m.tp W4 (by omega) (by omega) (hT.ext hX14)
  clear hs2 hW3 bS2 bR2 bS3 bR3 bH3 hX3 hX4 hX12 hX13 k0 hz2'
  go_upto_region 6 with fail
  try rw [← hW4]
  try rw [hz3']
  clear hW4
  go_wp2_with fail
  refine R0.mono ?_
  rintro e w5 ⟨rfl, hx5⟩
  have b5 := bM4.ext hx5
  have g0 : w5.cell? ⟨g + 1 + 1 + 1, 0, none⟩ = some (.int .i64 0) := b5.cell 0
  have fz := b5.frozen 0
  have nR : g ≠ g + 1 + 1 + 1 := by omega
  have nS : g + 1 ≠ g + 1 + 1 + 1 := by omega
  have nH : g + 1 + 1 ≠ g + 1 + 1 + 1 := by omega
  have hwM : w.heap.size ≤ g + 1 + 1 + 1 := by omega
  obtain ⟨W6, hW6⟩ : ∃ W, W = w5.setCell ⟨g + 1 + 1 + 1, 0, none⟩ (.int .i64 m.tp) := ⟨_, rfl⟩
  have hX6 : Ext w W6 := by rw [hW6]; exact (hX14.trans hx5).setCell (p := ⟨g + 1 + 1 + 1, 0, none⟩) hwM _
  have bM6 : Blk W6 (g + 1 + 1 + 1) 26 #[.int .i64 m.tp, .int .i64 0, .int .i64 0, .slice none 0 0] := by rw [hW6]; exact b5.set_ 0 _
  have bR6 : Blk W6 g 26 #[.int .i64 0, .int .i64 0, .int .i64 0, .slice none 0 0] := by rw [hW6]; exact (bR4.ext hx5).far (p := ⟨g + 1 + 1 + 1, 0, none⟩) nR _
  have bS6 : Blk W6 (g + 1) 9 (svB (mltP m m.rules.length)).toArray := by rw [hW6]; exact (bS4.ext hx5).far (p := ⟨g + 1 + 1 + 1, 0, none⟩) nS _
  have bH6 : Blk W6 (g + 1 + 1) 9 (svB (mheP m)).toArray := by rw [hW6]; exact (bH4.ext hx5).far (p := ⟨g + 1 + 1 + 1, 0, none⟩) nH _
  have j1 : W6.cell? ⟨g + 1 + 1, 1, none⟩ = some (.string (itoaS m.sy)) := bH6.cell 1
  have R1 := ReadDecimal_c m.sy W6 (by omega) (by omega) (hT.ext hX6)
  clear R0 j0 hx5 b5 bR4 bS4 bH4 bM4 hX14
  go_upto_region 7 with fail
  try rw [← hW6]
  clear hW6 g0 fz
  go_wp2_with fail
  refine R1.mono ?_
  rintro e w7 ⟨rfl, hx7⟩
  have b7 := bM6.ext hx7
  have g0 : w7.cell? ⟨g + 1 + 1 + 1, 1, none⟩ = some (.int .i64 0) := b7.cell 1
  have fz := b7.frozen 1
  obtain ⟨W8, hW8⟩ : ∃ W, W = w7.setCell ⟨g + 1 + 1 + 1, 1, none⟩ (.int .i64 m.sy) := ⟨_, rfl⟩
  have hX8 : Ext w W8 := by rw [hW8]; exact (hX6.trans hx7).setCell (p := ⟨g + 1 + 1 + 1, 1, none⟩) hwM _
  have bM8 : Blk W8 (g + 1 + 1 + 1) 26 #[.int .i64 m.tp, .int .i64 m.sy, .int .i64 0, .slice none 0 0] := by rw [hW8]; exact b7.set_ 1 _
  have bR8 : Blk W8 g 26 #[.int .i64 0, .int .i64 0, .int .i64 0, .slice none 0 0] := by rw [hW8]; exact (bR6.ext hx7).far (p := ⟨g + 1 + 1 + 1, 1, none⟩) nR _
  have bS8 : Blk W8 (g + 1) 9 (svB (mltP m m.rules.length)).toArray := by rw [hW8]; exact (bS6.ext hx7).far (p := ⟨g + 1 + 1 + 1, 1, none⟩) nS _
  have bH8 : Blk W8 (g + 1 + 1) 9 (svB (mheP m)).toArray := by rw [hW8]; exact (bH6.ext hx7).far (p := ⟨g + 1 + 1 + 1, 1, none⟩) nH _
  have j2 : W8.cell? ⟨g + 1 + 1, 2, none⟩ = some (.string (itoaS m.st)) := bH8.cell 2
  have R2 := ReadDecimal_c m.st W8 (by omega) (by omega) (hT.ext hX8)
  clear R1 j1 hx7 b7 bR6 bS6 bH6 bM6 hX6
  go_upto_region 8 with fail
  try rw [← hW8]
  clear hW8 g0 fz
  go_wp2_with fail
  refine R2.mono ?_
  rintro e w9 ⟨rfl, hx9⟩
  have b9 := bM8.ext hx9
  have g0 : w9.cell? ⟨g + 1 + 1 + 1, 2, none⟩ = some (.int .i64 0) := b9.cell 2
  have fz := b9.frozen 2
  obtain ⟨WA, hWA⟩ : ∃ W, W = w9.setCell ⟨g + 1 + 1 + 1, 2, none⟩ (.int .i64 m.st) := ⟨_, rfl⟩
  have hXA : Ext w WA := by rw [hWA]; exact (hX8.trans hx9).setCell (p := ⟨g + 1 + 1 + 1, 2, none⟩) hwM _
  have bMA : Blk WA (g + 1 + 1 + 1) 26 #[.int .i64 m.tp, .int .i64 m.sy, .int .i64 m.st, .slice none 0 0] := by rw [hWA]; exact b9.set_ 2 _
  have bRA : Blk WA g 26 #[.int .i64 0, .int .i64 0, .int .i64 0, .slice none 0 0] := by rw [hWA]; exact (bR8.ext hx9).far (p := ⟨g + 1 + 1 + 1, 2, none⟩) nR _
  have bSA : Blk WA (g + 1) 9 (svB (mltP m m.rules.length)).toArray := by rw [hWA]; exact (bS8.ext hx9).far (p := ⟨g + 1 + 1 + 1, 2, none⟩) nS _
  have st0 : RdM w g (g + 1) (g + 1 + 1 + 1) m (.slice none 0 0) (m.rules.take 0) WA := ⟨bRA, bSA, bMA, ⟨[], ⟨by simp, .inl ⟨rfl, rfl⟩⟩, MCells.nil _ _⟩, hXA⟩
  clear R2 j2 hx9 b9 bR8 bS8 bH8 bM8 hX8 bMA bRA bSA hXA
  go_upto_region 9 with fail
  try rw [← hWA]
  clear hWA g0 fz
  go_wp2_with fail
  clear hle61
  rotate_left
  · have hLs : L - 1 = N := by have := hLN.out; omega
    try rw [hLs]
    clear hLs
    go_loopw [8, 52] (fun l i wr => ∃ (k : Nat) (v : Value), k ≤ N ∧ i = .int .i64 (k : Int) ∧ RdM w g (g + 1) (g + 1 + 1 + 1) m v (m.rules.take k) wr) (fun _ i _ => N - (intOf i).toNat)
    case atStart => exact ⟨0, _, Nat.zero_le _, rfl, st0⟩
    case round =>
      clear st0
      obtain ⟨k, v, hk, rfl, st⟩ := hrel
      by_cases hlt : k < N
      · have hlt' : k < m.rules.length := by rw [HN.out]; exact hlt
        have hro := mrule_all (multi_rule HM.out hlt')
        have hnx : Hid (m.rules.take (k + 1) = m.rules.take k ++ [m.rules[k]]) := Lib.hid (List.take_succ_eq_append_getElem hlt')
        have k1 : wr.cell? ⟨g + 1, 1 + k, none⟩ = some (.string (bsS (mruT m.rules[k]))) := by rw [st.str.cell]; exact (List.getElem?_toArray).trans (mltP_get hlt')
        obtain ⟨r, hrk⟩ : ∃ r, m.rules[k] = r := ⟨_, rfl⟩
        rw [hrk] at hro hnx k1
        obtain ⟨⟨q1, q2⟩, ⟨n1, n2⟩, l1, l2, l3, p1, p2, p3⟩ := hro
        have zD := Ext.drew wr
        have stD := st.ext' zD
        have RM := readMultiRule_c r wr.drew ⟨q1, by omega⟩ ⟨n1, by omega⟩ (by omega) (by omega) (by omega) (fun z hz => by have := p1 z hz; omega) (fun z hz => by have := p2 z hz; omega) p3 (hT.ext stD.ext) (hML.ext stD.ext)
        have zm : wr.drew.cell? ⟨g + 1 + 1 + 1, 3, none⟩ = some v := stD.cur.cell 3
        obtain ⟨cl, ho, hcl⟩ := stD.own
        have hlk : (m.rules.take k).length = k := by rw [List.length_take]; omega
        have HLK := Lib.hid hlk
        rw [hlk] at ho
        obtain ⟨Av, cv, rfl, _, _, _⟩ := (ownsRow_row ho).form
        have hbas : w.heap.size ≤ wr.drew.heap.size := stD.ext.size
        have hki : (k : Int) < (N : Int) := by omega
        clear hrk hlk q1 q2 n1 n2 l1 l2 l3 p1 p2 p3 st hlt'
        go_wp2_with fail
        refine wp_region_ordT 5 (readsT [0, 1, 2] (.stir 3 (.stir 4 .done))) (by kernel_rfl) (by kernel_rfl) (fun _ _ _ _ _ h => h) ?_
        simp only [readsT]
        iterate 3 (refine wpOrdT_read (v := ?_) (by rfl) (Or.inl ⟨by rfl, fun x hx => ?_⟩) ?_; rotate_left; (· have a0 := hx.cell zm; go_simp; try with_reducible rfl); try simp only [Act.put, List.setIfInBounds_toArray, List.set_cons_zero, List.set_cons_succ])
        refine wpOrdT_stir (by rfl) (fun K hK => ?_)
        go_simp
        go_at_call 26
        refine RM.mono ?_
        rintro e w9 ⟨vr, rfl, ⟨x1, x2, x3, rfl, o1, o2, o3⟩, hx9⟩
        refine hK _ _ hx9 ?_
        clear hK K RM
        try simp only [Act.put, List.setIfInBounds_toArray, List.set_cons_zero, List.set_cons_succ]
        obtain ⟨A1, c1, rfl, _, _⟩ := id o1.ints.form
        obtain ⟨A2, c2, rfl, _, _⟩ := id o2.ints.form
        obtain ⟨A3, c3, rfl, _, _⟩ := id o3.ints.form
        refine wpOrdT_stir (by rfl) (fun K hK => ?_)
        simp only [mcell]
        go_simp
        have eA := Ext.alloc w9 (.cells #[.int .i64 r.st, .slice A1 r.rd.length c1, .slice A2 r.wr.length c2, .slice A3 r.mv.length c3, .int .i64 r.nx] 64)
        refine hK _ _ eA ?_
        clear hK K
        try simp only [Act.put, List.setIfInBounds_toArray, List.set_cons_zero, List.set_cons_succ]
        refine wpOrdT_done ?_
        try simp only [List.drop_succ_cons, List.drop_zero]
        obtain ⟨W6, hW6⟩ : ∃ W6, W6 = w9.alloc (.cells #[.int .i64 r.st, .slice A1 r.rd.length c1, .slice A2 r.wr.length c2, .slice A3 r.mv.length c3, .int .i64 r.nx] 64) := ⟨_, rfl⟩
        rw [← hW6] at eA
        have bN : Blk W6 w9.heap.size 64 (mcell r (.slice A1 r.rd.length c1) (.slice A2 r.wr.length c2) (.slice A3 r.mv.length c3)).toArray := by rw [hW6]; exact Blk.new _ _ _ _ rfl
        have s9 := stD.ext' (hx9.trans eA)
        have ho6 := ownsRow_ext ho (hx9.trans eA)
        have hcl6 := hcl.ext (hx9.trans eA)
        have hb6 : w.heap.size ≤ W6.heap.size := s9.ext.size
        have o16 : OwnInts w.heap.size W6 (.slice A1 r.rd.length c1) r.rd := OwnInts.ext (ownsRow_base o1 hbas) eA
        have o26 : OwnInts w.heap.size W6 (.slice A2 r.wr.length c2) r.wr := OwnInts.ext (ownsRow_base o2 hbas) eA
        have o36 : OwnInts w.heap.size W6 (.slice A3 r.mv.length c3) r.mv := OwnInts.ext (ownsRow_base o3 hbas) eA
        have hk60 : k ≤ 60 := by omega
        have hb7 : w.heap.size ≤ w9.heap.size := by have := hx9.size; omega
        clear hx9 zm zD stD ho hcl o1 o2 o3 eA
        go_wp2_with (at_builtin; rw [← hW6]; refine wpList_append_own_at _ rfl _ _ 24 rfl w.heap.size 64 i0 (.agg #[.int .i64 0, .slice none 0 0, .slice none 0 0, .slice none 0 0, .int .i64 0]) 5 88 Tryz.underlying24 hi0 hz0 hz1 hz2 rfl (by decide) _ _ cl rfl ho6 ⟨w9.heap.size, 0, none⟩ 1 1 (mcell r (.slice A1 r.rd.length c1) (.slice A2 r.wr.length c2) (.slice A3 r.mv.length c3)) rfl rfl (World.news_of_block bN) ?c2 ?c3 ?c4 ?c5 ?_)
        case c2 => intro u hu; simp [mcell] at hu; rcases hu with rfl | rfl | rfl | rfl | rfl <;> first | rfl | (cases A1 <;> rfl) | (cases A2 <;> rfl) | (cases A3 <;> rfl)
        case c3 => unfold maxLen; omega
        case c4 => omega
        case c5 => first | exact hb6 | (simp; omega)
        intro v' w7 hown7 hg7 _ _
        have hg7' : W6.grownBy w7 (Value.slice Av k cv).ownBlock := by first | exact hg7 | (rw [hW6]; exact hg7)
        obtain ⟨A7, c7, rfl, _, _, _⟩ := (ownsRow_row hown7).form
        obtain ⟨s7, b7⟩ := s9.push nR nS hwM (by rw [HLK.out]; exact ho6) hcl6 o16 o26 o36 (by rw [HLK.out]; first | exact hown7 | (rw [hg]; exact hown7)) hg7'
        rw [← hnx.out] at s7
        have HS7 := Lib.hid s7
        have cB := b7.cell
        have cF := b7.frozen
        clear hW6 bN s9 ho6 hcl6 o16 o26 o36 hown7 hg7 hg7' s7 b7
        go_wp2_with fail
        go_roundw
        case rel => exact ⟨k + 1, _, by omega, by go_num, HS7.out⟩
        case measure => simp [intOf]; omega
      · obtain rfl : k = N := by omega
        rw [← HN.out, List.take_length] at st
        obtain ⟨Av, cv, rfl, _, _⟩ := id st.own.form
        have VM := ValidMulti_c (.agg #[.int .i64 m.tp, .int .i64 m.sy, .int .i64 m.st, .slice Av m.rules.length cv]) m wr ⟨_, rfl, st.own.rules⟩
        rw [HM.out] at VM
        have m0 : wr.cell? ⟨g + 1 + 1 + 1, 0, none⟩ = some (.int .i64 m.tp) := st.cur.cell 0
        have m1 : wr.cell? ⟨g + 1 + 1 + 1, 1, none⟩ = some (.int .i64 m.sy) := st.cur.cell 1
        have m2 : wr.cell? ⟨g + 1 + 1 + 1, 2, none⟩ = some (.int .i64 m.st) := st.cur.cell 2
        have m3 : wr.cell? ⟨g + 1 + 1 + 1, 3, none⟩ = some (.slice Av m.rules.length cv) := st.cur.cell 3
        have ST := Lib.hid st
        clear st
        go_wp2_with fail
        refine VM.mono ?_
        rintro e wa ⟨rfl, hxa⟩
        have sta := ST.out.ext' hxa
        have m0 : wa.cell? ⟨g + 1 + 1 + 1, 0, none⟩ = some (.int .i64 m.tp) := sta.cur.cell 0
        have m1 : wa.cell? ⟨g + 1 + 1 + 1, 1, none⟩ = some (.int .i64 m.sy) := sta.cur.cell 1
        have m2 : wa.cell? ⟨g + 1 + 1 + 1, 2, none⟩ = some (.int .i64 m.st) := sta.cur.cell 2
        have m3 : wa.cell? ⟨g + 1 + 1 + 1, 3, none⟩ = some (.slice Av m.rules.length cv) := sta.cur.cell 3
        have MT := MultiText_c m (.agg #[.int .i64 m.tp, .int .i64 m.sy, .int .i64 m.st, .slice Av m.rules.length cv]) wa ⟨_, rfl, sta.own.rules⟩ HM.out (hT.ext sta.ext)
        have STA := Lib.hid sta
        clear VM sta hxa
        go_wp2_with fail
        refine MT.mono ?_
        rintro e wb ⟨rfl, hxb⟩
        have stb := STA.out.ext' hxb
        have m0 : wb.cell? ⟨g + 1 + 1 + 1, 0, none⟩ = some (.int .i64 m.tp) := stb.cur.cell 0
        have m1 : wb.cell? ⟨g + 1 + 1 + 1, 1, none⟩ = some (.int .i64 m.sy) := stb.cur.cell 1
        have m2 : wb.cell? ⟨g + 1 + 1 + 1, 2, none⟩ = some (.int .i64 m.st) := stb.cur.cell 2
        have m3 : wb.cell? ⟨g + 1 + 1 + 1, 3, none⟩ = some (.slice Av m.rules.length cv) := stb.cur.cell 3
        have z0 := stb.res.cell
        have zf := stb.res.frozen
        have d := ((((stb.res.set_ 0 (.int .i64 m.tp)).set_ 1 (.int .i64 m.sy)).set_ 2 (.int .i64 m.st)).set_ 3 (.slice Av m.rules.length cv)).cell
        have HO := Lib.hid (mr_set4 stb.res (by decide) (by decide) stb.own (.int .i64 m.tp) (.int .i64 m.sy) (.int .i64 m.st) (.slice Av m.rules.length cv))
        have hgg : w.heap.size ≤ g := by omega
        have HX := Lib.hid ((((stb.ext.setCell (p := ⟨g, 0, none⟩) hgg (.int .i64 m.tp)).setCell (p := ⟨g, 1, none⟩) hgg (.int .i64 m.sy)).setCell (p := ⟨g, 2, none⟩) hgg (.int .i64 m.st)).setCell (p := ⟨g, 3, none⟩) hgg (.slice Av m.rules.length cv))
        clear MT stb hxb
        go_wp2_with fail
        refine bodyPost_ret (v := .tuple #[.agg #[.int .i64 m.tp, .int .i64 m.sy, .int .i64 m.st, .slice Av m.rules.length cv], .bool true]) (by simp [results, Tryz.results8, go_sem, d]) rfl ⟨_, rfl, HO.out, HX.out⟩
  · rename_i hL0
    have hN0 : N = 0 := by have := hLN.out; omega
    go_loopw [8, 52] (fun l i wr => ∃ (k : Nat) (v : Value), k ≤ N ∧ i = .int .i64 (k : Int) ∧ RdM w g (g + 1) (g + 1 + 1 + 1) m v (m.rules.take k) wr) (fun _ i _ => N - (intOf i).toNat)
    case atStart => exact ⟨0, _, Nat.zero_le _, rfl, st0⟩
    case round =>
      clear st0
      obtain ⟨k, v, hk, rfl, st⟩ := hrel
      obtain rfl : k = N := by omega
      rw [← HN.out, List.take_length] at st
      obtain ⟨Av, cv, rfl, _, _⟩ := id st.own.form
      have VM := ValidMulti_c (.agg #[.int .i64 m.tp, .int .i64 m.sy, .int .i64 m.st, .slice Av m.rules.length cv]) m wr ⟨_, rfl, st.own.rules⟩
      rw [HM.out] at VM
      have m0 : wr.cell? ⟨g + 1 + 1 + 1, 0, none⟩ = some (.int .i64 m.tp) := st.cur.cell 0
      have m1 : wr.cell? ⟨g + 1 + 1 + 1, 1, none⟩ = some (.int .i64 m.sy) := st.cur.cell 1
      have m2 : wr.cell? ⟨g + 1 + 1 + 1, 2, none⟩ = some (.int .i64 m.st) := st.cur.cell 2
      have m3 : wr.cell? ⟨g + 1 + 1 + 1, 3, none⟩ = some (.slice Av m.rules.length cv) := st.cur.cell 3
      have ST := Lib.hid st
      clear st
      go_wp2_with fail
      refine VM.mono ?_
      rintro e wa ⟨rfl, hxa⟩
      have sta := ST.out.ext' hxa
      have m0 : wa.cell? ⟨g + 1 + 1 + 1, 0, none⟩ = some (.int .i64 m.tp) := sta.cur.cell 0
      have m1 : wa.cell? ⟨g + 1 + 1 + 1, 1, none⟩ = some (.int .i64 m.sy) := sta.cur.cell 1
      have m2 : wa.cell? ⟨g + 1 + 1 + 1, 2, none⟩ = some (.int .i64 m.st) := sta.cur.cell 2
      have m3 : wa.cell? ⟨g + 1 + 1 + 1, 3, none⟩ = some (.slice Av m.rules.length cv) := sta.cur.cell 3
      have MT := MultiText_c m (.agg #[.int .i64 m.tp, .int .i64 m.sy, .int .i64 m.st, .slice Av m.rules.length cv]) wa ⟨_, rfl, sta.own.rules⟩ HM.out (hT.ext sta.ext)
      have STA := Lib.hid sta
      clear VM sta hxa
      go_wp2_with fail
      refine MT.mono ?_
      rintro e wb ⟨rfl, hxb⟩
      have stb := STA.out.ext' hxb
      have m0 : wb.cell? ⟨g + 1 + 1 + 1, 0, none⟩ = some (.int .i64 m.tp) := stb.cur.cell 0
      have m1 : wb.cell? ⟨g + 1 + 1 + 1, 1, none⟩ = some (.int .i64 m.sy) := stb.cur.cell 1
      have m2 : wb.cell? ⟨g + 1 + 1 + 1, 2, none⟩ = some (.int .i64 m.st) := stb.cur.cell 2
      have m3 : wb.cell? ⟨g + 1 + 1 + 1, 3, none⟩ = some (.slice Av m.rules.length cv) := stb.cur.cell 3
      have z0 := stb.res.cell
      have zf := stb.res.frozen
      have d := ((((stb.res.set_ 0 (.int .i64 m.tp)).set_ 1 (.int .i64 m.sy)).set_ 2 (.int .i64 m.st)).set_ 3 (.slice Av m.rules.length cv)).cell
      have HO := Lib.hid (mr_set4 stb.res (by decide) (by decide) stb.own (.int .i64 m.tp) (.int .i64 m.sy) (.int .i64 m.st) (.slice Av m.rules.length cv))
      have hgg : w.heap.size ≤ g := by omega
      have HX := Lib.hid ((((stb.ext.setCell (p := ⟨g, 0, none⟩) hgg (.int .i64 m.tp)).setCell (p := ⟨g, 1, none⟩) hgg (.int .i64 m.sy)).setCell (p := ⟨g, 2, none⟩) hgg (.int .i64 m.st)).setCell (p := ⟨g, 3, none⟩) hgg (.slice Av m.rules.length cv))
      clear MT stb hxb
      go_wp2_with fail
      refine bodyPost_ret (v := .tuple #[.agg #[.int .i64 m.tp, .int .i64 m.sy, .int .i64 m.st, .slice Av m.rules.length cv], .bool true]) (by simp [results, Tryz.results8, go_sem, d]) rfl ⟨_, rfl, HO.out, HX.out⟩
end Go.Proofs.YtkbpchdncljlbaaGreatDoor
end
section
set_option linter.unusedVariables false
set_option linter.unusedSimpArgs false
namespace Go.Proofs.YtkbpchdncljlbaaGreatDoor
open Go Go.RowKit Go.Proofs Go.Maps
set_option maxHeartbeats 400000
theorem TapB.ext {w w' : World} {g : Nat} {ts : List TapeD} (h : TapB w g ts) (he : Ext w w') : TapB w' g ts := by
  obtain ⟨cs, hb, hc⟩ := h
  exact ⟨cs, hb.ext he, fun i hi => by
    obtain ⟨lv, rv, e1, e2, s1, s2, r⟩ := hc i hi
    exact ⟨lv, rv, e1, e2, s1.ext he, s2.ext he, r⟩⟩
theorem OwnT.tapF {base : Nat} {w : World} {A : Option Addr} {c : Nat} {ts : List TapeD} {m : MultiD} (h : OwnT base w (.slice A ts.length c) ts) (h0 : 0 < ts.length) (hok : ts.all (tapeOk m) = true) : ∃ b, A = some ⟨b, 0, none⟩ ∧ TapF w b 0 ts ∧ ts.length ≤ c ∧ c ≤ 9223372036854775807 := by
  obtain ⟨_, c', e, c1, c2⟩ := h.form
  cases e
  obtain ⟨cl, h1, h2⟩ := h
  obtain ⟨g, rfl, _, _⟩ := own_at h1 h0
  refine ⟨g, rfl, fun i hi => ?_, c1, c2⟩
  obtain ⟨lv, rv, e1, e2, o1, o2⟩ := h2.2 i hi
  have ho := (tape_len (List.all_eq_true.1 hok _ (List.getElem_mem hi))).1
  simp only [roomT, Bool.and_eq_true, decide_eq_true_eq] at ho
  exact ⟨lv, rv, by rw [Nat.zero_add]; exact (World.ownsRow.cellAt h1 _ (by omega)).trans e1, by rw [Nat.zero_add]; exact (World.ownsRow.cellAt h1 _ (by omega)).trans e2, o1.ints, o2.ints, o1.flat, o2.flat, by omega, by omega⟩
/-- What a run of a machine with several tapes gives. -/
def RunRB (rs : List MRuleD) (c : MConfD) (N : Nat) (e : Ending) (w' : World) : Prop :=
  (∃ i g cap, MEnd rs c N i ∧ e = .returned (.tuple #[.agg #[.int .i64 (cfgM rs c i).q, .slice (some ⟨g, 0, none⟩) c.tapes.length cap], .int .i64 (i : Int), .bool (lookM rs (cfgM rs c i)).isNone, .int .i64 0]) ∧
    c.tapes.length ≤ cap ∧ cap ≤ 9223372036854775807 ∧ TapB w' g (cfgM rs c i).tapes) ∨
  (∃ i, MFull rs c N i ∧ e = .returned (.tuple #[.agg #[.int .i64 0, .slice none 0 0], .int .i64 0, .bool false, .int .i64 5]))
set_option maxRecDepth 20000 in
set_option maxHeartbeats 4000000 in
theorem RunMultiB_c (m : MultiD) (mv : Value) (c : MConfD) (b off cap N : Nat) (w : World) (hM : Mult w mv m) (hm : multiOk m = true) (hq : inB c.q 0 (m.st - 1) = true) (hn : (c.tapes.length : Int) = m.tp) (hts : c.tapes.all (tapeOk m) = true)
    (hT : TapF w b off c.tapes) (h1 : c.tapes.length ≤ cap) (h2 : cap ≤ 9223372036854775807) (hN1 : 1 ≤ N) (hN2 : N ≤ 20000) :
    Calls Tryz.prog 7 #[mv, .agg #[.int .i64 c.q, .slice (some ⟨b, off, none⟩) c.tapes.length cap], .int .i64 (N : Int)] w fun e w' => RunRB m.rules c N e w' ∧ Ext w w' := by
  have hG := good_of_ok hm hq hn hts
  have hroom := room_of_ok hts
  obtain ⟨⟨tp1, tp2⟩, _⟩ := multi_all hm
  have hpos : 0 < c.tapes.length := by omega
  have hn3 : c.tapes.length ≤ 1000 := by omega
  obtain ⟨rv, rfl, hR⟩ := id hM
  obtain ⟨A, cA, rfl, _, _⟩ := hR.form
  obtain ⟨V, hV⟩ : ∃ V, V = ((w.alloc (.cells #[.int .i64 m.tp, .int .i64 m.sy, .int .i64 m.st, .slice A m.rules.length cA] 26)).alloc (.cells #[.int .i64 c.q, .slice (some ⟨b, off, none⟩) c.tapes.length cap] 29)).alloc (.cells #[.int .i64 0, .slice none 0 0] 29) := ⟨_, rfl⟩
  have hX : Ext w V := by rw [hV]; exact ((Ext.alloc _ _).trans (Ext.alloc _ _)).trans (Ext.alloc _ _)
  obtain ⟨g, hg⟩ : ∃ g, w.heap.size = g := ⟨_, rfl⟩
  have bM : Blk V g 26 #[.int .i64 m.tp, .int .i64 m.sy, .int .i64 m.st, .slice A m.rules.length cA] := by rw [hV]; exact ((Blk.new _ _ _ _ hg).alloc _).alloc _
  have bC : Blk V (g + 1) 29 #[.int .i64 c.q, .slice (some ⟨b, off, none⟩) c.tapes.length cap] := by rw [hV]; exact (Blk.new _ _ _ _ (by simp [hg])).alloc _
  have bO : Blk V (g + 1 + 1) 29 #[.int .i64 0, .slice none 0 0] := by rw [hV]; exact Blk.new _ _ _ _ (by simp [hg])
  have m0 := bM.cell 0
  have m1 := bM.cell 1
  have m2 := bM.cell 2
  have m3 := bM.cell 3
  have c0 := bC.cell 0
  have c1 := bC.cell 1
  simp only [List.getElem?_toArray, List.getElem?_cons_zero, List.getElem?_cons_succ] at m0 m1 m2 m3 c0 c1
  have VC := ValidMultiConfig_c m _ _ c V (hM.ext hX) hm (TapF.tapes (hT.ext hX) h1 h2) hq hn
  rw [hts] at VC
  have BO := fun w => budgetOk_c (N : Int) w
  have hb : inB (N : Int) 1 20000 = true := inB_iff.2 ⟨by omega, by omega⟩
  rw [hb] at BO
  have HT := Lib.hid hT
  clear hT hts
  go_enter Tryz.func7, Tryz.ntmps7
  go_wp2_with fail
  try rw [← hV]
  try rw [hg]
  clear hV
  refine VC.mono ?_
  rintro e w1 ⟨rfl, hx1⟩
  go_wp2_with fail
  refine (BO w1).mono ?_
  rintro e _ ⟨rfl, rfl⟩
  have hX1 := hX.trans hx1
  have d0 := (bC.ext hx1).cell 0
  have d1 := (bC.ext hx1).cell 1
  simp only [List.getElem?_toArray, List.getElem?_cons_zero, List.getElem?_cons_succ] at d0 d1
  have CM := copyMultiConfig_c w1 c b off cap h1 h2 hn3 (HT.out.ext hX1)
  clear m0 m1 m2 m3 c0 c1 VC BO
  go_wp2_with fail
  refine CM.mono ?_
  rintro e w2 ⟨v, cl, rfl, hC, hx2⟩
  obtain ⟨gT, cp, cs, rfl, hAt⟩ := hC.at hx2 hpos
  obtain ⟨W, hW⟩ : ∃ W, W = w2.alloc (.cells #[.int .i64 c.q, .slice (some ⟨gT, 0, none⟩) c.tapes.length cp] 29) := ⟨_, rfl⟩
  have hXW : Ext w2 W := by rw [hW]; exact Ext.alloc _ _
  rw [← hW] at hAt
  obtain ⟨bc, hbc⟩ : ∃ bc, w2.heap.size = bc := ⟨_, rfl⟩
  rw [hbc] at hAt
  have hx12 := hx1.trans (hx2.trans hXW)
  have bM2 := bM.ext hx12
  have bO2 := bO.ext hx12
  have bM3 := bM.ext (hx1.trans hx2)
  have m0 := bM3.cell 0
  have m1 := bM3.cell 1
  have m2 := bM3.cell 2
  have m3 := bM3.cell 3
  have hgl : g < w2.heap.size := bM3.lt
  have hgl2 : g < bc := by rw [← hbc]; exact hgl
  simp only [List.getElem?_toArray, List.getElem?_cons_zero, List.getElem?_cons_succ] at m0 m1 m2 m3
  have RM := runMulti_c w1 W (fun k => k < w1.heap.size) m (.agg #[.int .i64 m.tp, .int .i64 m.sy, .int .i64 m.st, .slice A m.rules.length cA]) c bc gT cp N cs #[] (fun _ _ _ _ => True) ⟨_, rfl, (hR.ext hX1)⟩ hm hG hroom hAt (by omega)
    (fun _ _ _ _ _ => trivial) (fun _ _ _ _ _ _ _ => trivial) (fun hi => visNone _ _ _ _ _ _ _ _)
  have hXall := hX.trans hx12
  have hgO : w.heap.size ≤ g + 1 + 1 := by omega
  have hO1 : g + 1 + 1 < w1.heap.size := (bO.ext hx1).lt
  have HX1 := Lib.hid hX1
  have HBO := Lib.hid (bO.ext hx1)
  clear hC hAt CM d0 d1 HT hx1 hx2 hX bM bC bO hM hR hG hroom hXW bO2
  go_wp2_with fail
  try rw [← hW]
  try rw [hbc]
  clear hW
  refine RM.mono ?_
  rintro e w3 ⟨hi, ⟨i, K', cs', hE, rfl, hA3, _⟩ | ⟨i, K', hF, rfl, hx3, _⟩⟩
  · have hT3 := hA3.tapB (hE.runs.room i (Nat.le_refl _))
    have hx3 := hA3.ext0
    have hcp := hA3.cap1
    have hcp2 := hA3.cap2
    have bO3 := HBO.out.ext hx3
    have d0 := hA3.blk.cell 0
    have d1 := hA3.blk.cell 1
    simp only [List.getElem?_toArray, List.getElem?_cons_zero, List.getElem?_cons_succ] at d0 d1
    have hne : bc ≠ g + 1 + 1 := by have := hA3.blo; omega
    rw [cfgM_tapes] at d1 hcp
    have ob := bO3.cell
    have of_ := bO3.frozen
    have HE := Lib.hid hE
    have ht0 := hT3
    obtain ⟨cc, hcc⟩ : ∃ cc, cfgM m.rules c i = cc := ⟨_, rfl⟩
    rw [hcc] at d0 hT3
    have HCC := Lib.hid hcc
    have hX3 : Ext w w3 := HX1.out.trans hx3
    obtain ⟨q, hqq⟩ : ∃ q, cc.q = q := ⟨_, rfl⟩
    rw [hqq] at d0
    have HQQ := Lib.hid hqq
    obtain ⟨n, hnn⟩ : ∃ n, c.tapes.length = n := ⟨_, rfl⟩
    have HNN := Lib.hid hnn
    rw [hnn] at d1 hcp
    obtain ⟨hl, hhl⟩ : ∃ b, (lookM m.rules (cfgM m.rules c i)).isNone = b := ⟨_, rfl⟩
    have HHL := Lib.hid hhl
    rw [hhl]
    have HT : Hid (TapB ((w3.setCell ⟨g + 1 + 1, 0, none⟩ (.int .i64 q)).setCell ⟨g + 1 + 1, 1, none⟩ (.slice (some ⟨gT, 0, none⟩) n cp)) gT cc.tapes) := Lib.hid (by
      exact (hT3.far bO3 0 _).far (bO3.set_ 0 _) 1 _)
    have HXX := Lib.hid ((hX3.setCell (p := ⟨g + 1 + 1, 0, none⟩) hgO (.int .i64 q)).setCell (p := ⟨g + 1 + 1, 1, none⟩) hgO (.slice (some ⟨gT, 0, none⟩) n cp))
    clear hE hA3 hT3 hcc ht0 hqq hnn hhl RM HBO hx3 hX3
    go_wp2_with fail
    refine bodyPost_ret (v := .tuple #[.agg #[.int .i64 q, .slice (some ⟨gT, 0, none⟩) n cp], .int .i64 (i : Int), .bool hl, .int .i64 0]) (by simp [results, Tryz.results7, go_sem, ob]) rfl ⟨.inl ⟨i, gT, cp, HE.out, ?_, by rw [HNN.out]; exact hcp, hcp2, by rw [HCC.out]; exact HT.out⟩, HXX.out⟩
    rw [HCC.out, HQQ.out, HNN.out, ← HCC.out, HHL.out]
  · have bO3 := HBO.out.ext hx3
    have ob := bO3.cell
    have of_ := bO3.frozen
    have HXX := Lib.hid (((HX1.out.trans hx3).setCell (p := ⟨g + 1 + 1, 0, none⟩) hgO (.int .i64 0)).setCell (p := ⟨g + 1 + 1, 1, none⟩) hgO (.slice none 0 0))
    have HF := Lib.hid hF
    clear hF RM HBO hx3
    go_wp2_with fail
    exact bodyPost_ret (v := .tuple #[.agg #[.int .i64 0, .slice none 0 0], .int .i64 0, .bool false, .int .i64 5]) (by simp [results, Tryz.results7, go_sem, ob]) rfl ⟨.inr ⟨i, HF.out, rfl⟩, HXX.out⟩
end Go.Proofs.YtkbpchdncljlbaaGreatDoor
end
