/- Contracts: contexts with one state in front of each (statedAll).
Contract: the context of a configuration.
Items as keys of a map. -/
import Derived.Test.YtapjofbjedpmgaaGreatC27
import Derived.Test.YtapjofbjedpmgaaGreatC20
import Derived.Test.YtapjofbjedpmgaaGreatC15
section
set_option linter.unusedSimpArgs false
set_option linter.unusedVariables false
namespace Go.Proofs.YtapjofbjedpmgaaGreat
open Go Go.RowKit Go.Proofs
set_option maxHeartbeats 400000
set_option maxRecDepth 100000 in
set_option maxHeartbeats 1000000 in
theorem statedAll_c (q : Int) (v : Value) (xss : List (List Int)) (w : World) (h : Lists w v xss) (hx : xss.length ≤ 1000) (hz : ∀ x ∈ xss, x.length ≤ 1000) :
    Calls Tryz.prog 32 #[.int .i64 q, v] w fun e w' => ∃ u, e = .returned u ∧ OwnLists w.heap.size w' u (xss.map fun x => q :: x) ∧ Ext w w' := by
  obtain ⟨A, c, rfl, _, _⟩ := id h.form
  obtain ⟨g, hg⟩ : ∃ g, w.heap.size = g := ⟨_, rfl⟩
  obtain ⟨W, hW⟩ : ∃ W, W = w.alloc (.cells #[.int .i64 q] 2) := ⟨_, rfl⟩
  have hX : Ext w W := by rw [hW]; exact Ext.alloc _ _
  have hB : Blk W g 2 #[.int .i64 q] := by rw [hW]; exact Blk.new _ _ _ _ hg
  have hI : Ints W (.slice (some ⟨g, 0, none⟩) [q].length 1) [q] := by
    refine ⟨_, _, rfl, Nat.le_refl _, by omega, rfl, fun _ => ⟨g, 0, rfl, fun j hj => ?_⟩⟩
    have : j = 0 := by simp [ivs] at hj; omega
    subst this
    have := hB.cell 0
    simpa [ivs] using this
  have HI := Lib.hid hI
  have HX := Lib.hid hX
  have H := Lib.hid h
  have RC : Calls Tryz.prog 71 #[.slice (some ⟨g, 0, none⟩) 1 1, .int .i64 (xss.length : Int)] W fun e w' => ∃ u, e = .returned u ∧ Ints w' u (List.replicate xss.length q) ∧ Ext W w' := by
    by_cases h0 : xss.length = 0
    · have R := Repeat0_c g 0 1 1 [q] W hI rfl (Nat.le_refl _) (by omega)
      rw [h0]
      exact R
    · refine (RepeatG_c g 0 1 xss.length [q] W hI (Nat.le_refl _) (by omega) (by simp only [List.length_cons, List.length_nil]; omega)).mono ?_
      rintro e w1 ⟨u, rfl, o, x⟩
      rw [repL_one] at o
      exact ⟨u, rfl, ownsRow_row o, x⟩
  obtain ⟨R, hR⟩ : ∃ R, List.replicate xss.length q = R := ⟨_, rfl⟩
  have hRl : xss.length ≤ R.length := by rw [← hR, List.length_replicate]; exact Nat.le_refl _
  have hRs : statedX R xss = xss.map fun x => q :: x := by rw [← hR]; exact statedX_rep q xss
  rw [hR] at RC
  have HRS := Lib.hid (And.intro hRl hRs)
  clear hX hB hI h hR hRl hRs
  go_enter Tryz.func32, Tryz.ntmps32
  go_wp2_with fail
  try rw [← hW]
  try rw [hg]
  refine RC.mono ?_
  rintro e w1 ⟨u, rfl, hu, hx1⟩
  have SC := stated_c u (.slice A xss.length c) R xss w1 hu (H.out.ext (HX.out.trans hx1)) HRS.out.1 hx hz
  have HS : Hid (w.heap.size ≤ w1.heap.size) := Lib.hid (HX.out.trans hx1).size
  have HX1 := Lib.hid (HX.out.trans hx1)
  rw [HRS.out.2] at SC
  obtain ⟨Z, hZ⟩ : ∃ Z, (xss.map fun x => q :: x) = Z := ⟨_, rfl⟩
  rw [hZ] at SC
  have HZ := Lib.hid hZ
  obtain ⟨Au, cu, rfl, _, _⟩ := id hu.form
  clear hW hu hx1 RC hZ
  go_wp2_with fail
  refine SC.mono ?_
  rintro e w2 ⟨z, rfl, oz, hx2⟩
  have HO : Hid (OwnLists w.heap.size w2 z (xss.map fun x => q :: x)) := Lib.hid (by rw [HZ.out]; exact oz.base0 HS.out)
  clear SC oz
  go_wp2
  go_ret
  exact ⟨_, rfl, HO.out, HX1.out.trans hx2⟩
end Go.Proofs.YtapjofbjedpmgaaGreat
end
section
set_option linter.unusedSimpArgs false
set_option linter.unusedVariables false
namespace Go.Proofs.YtapjofbjedpmgaaGreat
open Go Go.RowKit Go.Proofs
set_option maxHeartbeats 400000
set_option maxRecDepth 20000 in
set_option maxHeartbeats 4000000 in
theorem contextOf_c (c : ConfD) (lv rv : Value) (n : Nat) (w : World) (hl : Ints w lv c.l) (hr : Ints w rv c.r) (hn : n ≤ 10) :
    Calls Tryz.prog 36 #[.agg #[.int .i64 c.q, lv, rv], .int .i64 n] w fun e w' => ∃ u, e = .returned u ∧ OwnInts w.heap.size w' u (ctxF c n) ∧ Ext w w' := by
  obtain ⟨A1, c1, rfl, _, _⟩ := id hl.form
  obtain ⟨A2, c2, rfl, _, _⟩ := id hr.form
  obtain ⟨g, hg⟩ : ∃ g, w.heap.size = g := ⟨_, rfl⟩
  obtain ⟨W, hW⟩ : ∃ W, W = w.alloc (.cells #[.int .i64 c.q, .slice A1 c.l.length c1, .slice A2 c.r.length c2] 29) := ⟨_, rfl⟩
  have hX : Ext w W := by rw [hW]; exact Ext.alloc _ _
  have bC : Blk W g 29 #[.int .i64 c.q, .slice A1 c.l.length c1, .slice A2 c.r.length c2] := by rw [hW]; exact Blk.new _ _ _ _ hg
  have q1 := bC.cell 1
  have q2 := bC.cell 2
  simp only [List.getElem?_toArray, List.getElem?_cons_zero, List.getElem?_cons_succ] at q1 q2
  have hw1 : IntKind.i64.wrap ((n : Int) + 1) = ((n + 1 : Nat) : Int) := by rw [show (n : Int) + 1 = ((n + 1 : Nat) : Int) by omega]; exact IntWalk.i64_in _ (by omega)
  have H := Lib.hid (And.intro hX (And.intro (hl.ext hX) (And.intro (hr.ext hX) hg)))
  clear hX hl hr bC
  go_enter Tryz.func36, Tryz.ntmps36
  go_upto_region 1 with fail
  try rw [← hW]
  try rw [hg]
  clear hW hg
  refine wp_region_ordT 8 (readsT [0, 1, 2, 4, 5, 6, 7] (.stir 3 .done)) (by kernel_rfl) (by kernel_rfl) (fun _ _ _ _ _ h => h) ?_
  simp only [readsT]
  iterate 7 (refine wpOrdT_read (v := ?_) (by rfl) (Or.inl ⟨by rfl, fun x hx => ?_⟩) ?_; rotate_left; (· have q1 := hx.cell q1; have q2 := hx.cell q2; go_simp; try with_reducible rfl); try simp only [Act.put, List.setIfInBounds_toArray, List.set_cons_zero, List.set_cons_succ])
  have hx0 : Ext W W.drew := Ext.drew W
  generalize W.drew = w0 at *
  refine wpOrdT_keep (by rfl) (fun K hK => ?_)
  go_simp
  go_at_call 74
  refine (cellsFrom_c _ c.l 0 n w0 (H.out.2.1.ext hx0) (by omega) (by omega)).mono ?_
  rintro e w1 ⟨u1, rfl, o1, hx1⟩
  refine hK _ _ hx1 ?_
  clear hK K
  try simp only [Act.put, List.setIfInBounds_toArray, List.set_cons_zero, List.set_cons_succ]
  refine wpOrdT_done ?_
  try simp only [List.drop_succ_cons, List.drop_zero]
  obtain ⟨L1, hL1⟩ : ∃ L, cellsF c.l 0 n = L := ⟨_, rfl⟩
  have hl1 : L1.length ≤ 100 := by rw [← hL1, cellsF_len]; omega
  rw [hL1] at o1
  obtain ⟨B1, d1, rfl, _, _⟩ := id o1.ints.form
  have CR := cellsFrom_c (.slice A2 c.r.length c2) c.r 0 (n + 1) w1 ((H.out.2.2.1.ext hx0).ext hx1) (by omega) (by omega)
  have HO1 := Lib.hid (And.intro hL1 (And.intro o1 (And.intro hx0 hx1)))
  clear hL1 o1 hx0 hx1 q1 q2
  go_wp2_with fail
  refine CR.mono ?_
  rintro e w2 ⟨u2, rfl, o2, hx2⟩
  obtain ⟨L2, hL2⟩ : ∃ L, cellsF c.r 0 (n + 1) = L := ⟨_, rfl⟩
  have hl2 : L2.length ≤ 100 := by rw [← hL2, cellsF_len]; omega
  rw [hL2] at o2
  obtain ⟨B2, d2, rfl, _, _⟩ := id o2.ints.form
  have JC := joined2_c B1 B2 d1 d2 L1 L2 w2 (HO1.out.2.1.ints.ext hx2) o2.ints HO1.out.2.1.flat o2.flat (by omega)
  have HX := Lib.hid (((H.out.1.trans HO1.out.2.2.1).trans HO1.out.2.2.2).trans hx2)
  have HL2 := Lib.hid hL2
  clear CR o2 hx2 hL2
  go_wp2_with fail
  refine JC.mono ?_
  rintro e w3 ⟨u, rfl, o3, hx3⟩
  go_wp2
  go_ret
  exact ⟨_, rfl, by unfold ctxF; rw [HO1.out.1, HL2.out]; exact ownsRow_base o3 HX.out.size, HX.out.trans hx3⟩
end Go.Proofs.YtapjofbjedpmgaaGreat
end
section
set_option linter.unusedSimpArgs false
set_option linter.unusedVariables false
namespace Go.Proofs.YtapjofbjedpmgaaGreat
open Go Go.RowKit Go.Proofs Go.Maps
set_option maxHeartbeats 400000
theorem laidOutCt : laidOutB Tryz.prog = true := by kernel_rfl
theorem itTy : MapTyB Tryz.prog 104 108 4 where
  keyed := Keyed.of_law (deep_law_laid laidOutCt (m := 10) (by omega) (by decide +kernel) (by kernel_rfl) (by kernel_rfl))
  und := Tryz.underlying104
  el := Tryz.underlying4
  zero w := by kernel_rfl
/-- The value of an item's ten numbers. -/
def enI (ys : List Int) : Value := .agg (ivs ys).toArray
theorem itemV_enI (xs : List Int) : itemV xs = enI (padI xs) := rfl
theorem enI_inj (x y : List Int) (h : enI x = enI y) : x = y := by
  unfold enI at h
  injection h with h
  have h2 : ivs x = ivs y := by simpa using h
  unfold ivs at h2
  exact (List.map_inj_right (fun a b hab => by injection hab)).1 h2
def smallQ (z : Int) : Prop := -1000000000000000 ≤ z ∧ z ≤ 1000000000000000
theorem smallQ_wf {z : Int} (h : smallQ z) : (Lit.int .i64 z).wf = true := by
  obtain ⟨_, _⟩ := h
  simp [Lit.wf, IntKind.min, IntKind.max, IntKind.signed, IntKind.bits]
  omega
theorem itKey (ys : List Int) (h : ys.length = 10) (hs : ∀ z ∈ ys, smallQ z) : ∃ l, keyOf Tryz.prog 108 (enI ys) = some l := by
  obtain ⟨a0, a1, a2, a3, a4, a5, a6, a7, a8, a9, rfl⟩ := ten_form h
  have w0 := smallQ_wf (hs a0 (by simp))
  have w1 := smallQ_wf (hs a1 (by simp))
  have w2 := smallQ_wf (hs a2 (by simp))
  have w3 := smallQ_wf (hs a3 (by simp))
  have w4 := smallQ_wf (hs a4 (by simp))
  have w5 := smallQ_wf (hs a5 (by simp))
  have w6 := smallQ_wf (hs a6 (by simp))
  have w7 := smallQ_wf (hs a7 (by simp))
  have w8 := smallQ_wf (hs a8 (by simp))
  have w9 := smallQ_wf (hs a9 (by simp))
  have cA : Tryz.prog.cellsOf 108 = 10 := by kernel_rfl
  have c1 : Tryz.prog.cellsOf 2 = 1 := by kernel_rfl
  have kt : Tryz.prog.keyType 108 = true := by kernel_rfl
  obtain ⟨d, hd⟩ : ∃ d, Tryz.prog.types.size = d + 2 := ⟨Tryz.prog.types.size - 2, by decide +kernel⟩
  have hf : (enI [a0, a1, a2, a3, a4, a5, a6, a7, a8, a9]).formed Tryz.prog 108 = true := by simp [Value.formed, enI, ivs, Tryz.underlying108, cA]
  have hK : Tryz.prog.keyLits (Tryz.prog.types.size + 1) 108 (enI [a0, a1, a2, a3, a4, a5, a6, a7, a8, a9]).cells.toList = some [.int .i64 a0, .int .i64 a1, .int .i64 a2, .int .i64 a3, .int .i64 a4, .int .i64 a5, .int .i64 a6, .int .i64 a7, .int .i64 a8, .int .i64 a9] := by
    rw [hd]
    simp [Program.keyLits, enI, ivs, Value.cells, Tryz.underlying108, Tryz.underlying2, cA, c1, w0, w1, w2, w3, w4, w5, w6, w7, w8, w9, show List.range 10 = [0, 1, 2, 3, 4, 5, 6, 7, 8, 9] from rfl]
  unfold keyOf
  rw [Tryz.underlying108]
  simp only [kt, hf, Bool.and_self, if_true, hK]
  exact ⟨_, rfl⟩
theorem padI_small {xs : List Int} (h : ∀ z ∈ xs, smallQ z) : ∀ z ∈ padI xs, smallQ z := fun z hz => by
  unfold padI at hz
  rcases List.mem_append.1 hz with hz | hz
  · exact h z hz
  · rw [List.eq_of_mem_replicate hz]
    exact ⟨by omega, by omega⟩
end Go.Proofs.YtapjofbjedpmgaaGreat
end
