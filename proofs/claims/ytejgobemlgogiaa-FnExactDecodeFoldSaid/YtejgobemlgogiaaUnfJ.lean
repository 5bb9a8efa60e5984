/- Contracts of the program's decoding of a configuration of the machine on one half of the tape. -/
import Derived.Test.YtejgobemlgogiaaUnfI
import Derived.Test.YtejgobemlgogiaaUnfQ
set_option linter.unusedSimpArgs false
set_option linter.unusedVariables false
namespace Go.Proofs.Ytejgobemlgogiaa
open Go Go.RowKit Go.Proofs Go.Maps
set_option maxHeartbeats 400000
theorem symbolAt0_c (v : Value) (zs : List Int) (w : World) (h : Ints w v zs) :
    Calls Try.prog 71 #[v, .int .i64 0] w fun e w' => e = .returned (.int .i64 (zs.getD 0 0)) ∧ w = w' := by
  simpa using symbolAt_c v zs 0 w h
set_option maxRecDepth 20000 in
theorem foldState_c (base : Nat) (w : World) (sy st : Int) (rvm : Value) (bx : Nat) (sy' : Int) (N : Int) (rs : List RuleD) (ps : List FP) (rv pv : Value) (bm : Nat) (c : ConfD) (lv qv : Value) (i : Nat) (p : FP)
    (h : PlSt base w bx sy' N rs ps rv pv bm) (hq : c.q = i) (hi : ps[i]? = some p) (hl : Ints w lv c.l) (hr : Ints w qv c.r) :
    Calls Try.prog 51 #[.agg #[.int .i64 sy, .int .i64 st, rvm], .pointer (some ⟨bx, 0, none⟩), .agg #[.int .i64 c.q, lv, qv]] w fun e w' => e = .returned (.tuple #[.int .i64 (stF sy p c).1, .int .i64 (stF sy p c).2.1, .bool (stF sy p c).2.2]) ∧ Ext w w' := by
  have hil : i < ps.length := (List.getElem?_eq_some_iff.1 hi).1
  obtain ⟨Ap, cp, rfl, hp1, hp2, _⟩ := (ownsRow_row h.places).form
  obtain ⟨g, rfl, hg1, hg2, p0, p1, p2⟩ := places_at h.places hi
  obtain ⟨Al, cl, rfl, _, _⟩ := hl.form
  obtain ⟨Ar, cr, rfl, _, _⟩ := hr.form
  rw [hq]
  obtain ⟨W, hW⟩ : ∃ W, W = (w.alloc (.cells #[.int .i64 sy, .int .i64 st, rvm] 35)).alloc (.cells #[.int .i64 (i : Int), .slice Al c.l.length cl, .slice Ar c.r.length cr] 30) := ⟨_, rfl⟩
  have hXW : Ext w W := by rw [hW]; exact (Ext.alloc _ _).trans (Ext.alloc _ _)
  have bM : Blk W w.heap.size 35 #[.int .i64 sy, .int .i64 st, rvm] := by rw [hW]; exact (Blk.new _ _ _ _ rfl).alloc _
  have bC : Blk W (w.heap.size + 1) 30 #[.int .i64 (i : Int), .slice Al c.l.length cl, .slice Ar c.r.length cr] := by rw [hW]; exact Blk.new _ _ _ _ (by simp)
  have m0 := bM.cell 0
  have c0 := bC.cell 0
  have c2 := bC.cell 2
  have x3 := (h.blk.ext hXW).cell 3
  simp only [List.getElem?_toArray, List.getElem?_cons_zero, List.getElem?_cons_succ] at m0 c0 c2 x3
  have q0 := hXW.cell p0
  have q1 := hXW.cell p1
  have q2 := hXW.cell p2
  have i1 : (0 : Int) ≤ (i : Int) := by omega
  have i2 : (i : Int) < (ps.length : Int) := by omega
  have hrW := hr.ext hXW
  obtain ⟨pk, pq, ph⟩ := p
  simp only at q0 q1 q2
  obtain ⟨R, hR⟩ : ∃ R, R = stF sy ⟨pk, pq, ph⟩ c := ⟨_, rfl⟩
  rw [← hR]
  have HR := Lib.hid hR
  clear hR hi hq p0 p1 p2
  obtain ⟨r0, hr0⟩ : ∃ r0, r0 = c.r.getD 0 0 := ⟨_, rfl⟩
  have SA := fun w h => symbolAt0_c (.slice Ar c.r.length cr) c.r w h
  rw [← hr0] at SA
  have HR0 := Lib.hid hr0
  clear hr0
  go_enter Try.func51, Try.ntmps51
  go_wp2_with fail
  rw [← hW]
  clear hW
  go_region_held3 (fun w' => w'.cell? ⟨bx, 3, none⟩ = some (.slice (some ⟨g, 0, none⟩) ps.length cp) ∧ w'.cell? ⟨w.heap.size + 1, 0, none⟩ = some (.int .i64 (i : Int)) ∧ w'.cell? ⟨g, i * 3, none⟩ = some (.int .i64 pk) ∧ w'.cell? ⟨g, i * 3 + 1, none⟩ = some (.int .i64 pq) ∧ w'.cell? ⟨g, i * 3 + 2, none⟩ = some (.int .i64 ph)) (first | go_keep) (fail)
  obtain ⟨U, hU⟩ : ∃ U, U = (W.alloc (.cells #[.int .i64 pk, .int .i64 pq, .int .i64 ph] 89)).drew := ⟨_, rfl⟩
  have hXU : Ext W U := by rw [hU]; exact (Ext.alloc _ _).trans (Ext.drew _)
  have bP : Blk U W.heap.size 89 #[.int .i64 pk, .int .i64 pq, .int .i64 ph] := by rw [hU]; exact (Blk.new _ _ _ _ rfl).drew
  rw [← hU]
  clear hU q0 q1 q2 x3
  have u0 := bP.cell 0
  have u1 := bP.cell 1
  have u2 := bP.cell 2
  simp only [List.getElem?_toArray, List.getElem?_cons_zero, List.getElem?_cons_succ] at u0 u1 u2
  have U0 := cellR u0
  have U1 := cellR u1
  have U2 := cellR u2
  have M0 := cellR (hXU.cell m0)
  have C2 := cellR (hXU.cell c2)
  have hrU := hrW.ext hXU
  have SAU := fun d os => SA _ (hrU.ext (below_regrown U d os))
  have hX := hXW.trans hXU
  clear m0 c0 c2
  by_cases h0 : pk = 0
  · have b0 : (pk == 0) = true := by simp [h0]
    have HE : Hid (R = (pq, ph, true)) := by unfold Hid; rw [HR.out]; simp [stF, h0]
    clear h0
    go_wp2_with fail
    refine wp_region_ext (by kernel_rfl) (by kernel_rfl) ?_
    repeat (go_big_quiet_step (fail))
    refine wpQuiet_nil ?_
    intro w2 hx2
    go_wp2
    rw [HE.out]
    refine bodyPost_ret (v := .tuple #[.int .i64 pq, .int .i64 ph, .bool true]) (by simp [results, Try.results51, go_sem]) rfl ?_
    exact ⟨rfl, hX.trans hx2⟩
  · have b0 : (pk == 0) = false := by simp [h0]
    by_cases h5 : pk = 5
    · have b5 : (pk == 5) = true := by simp [h5]
      by_cases hr0 : r0 = sy
      · have b6 : (r0 != sy) = false := by simp [hr0]
        have HE : Hid (R = (0, 0, false)) := by unfold Hid; rw [HR.out]; simp only [stF, ← HR0.out]; rw [if_neg h0, if_neg (fun h => h.2 hr0)]
        clear h0 h5 hr0
        go_wp2_with fail
        refine wp_region_ext (by kernel_rfl) (by kernel_rfl) ?_
        repeat (go_big_quiet_step ((go_at_call 71; exact Calls.sameR (SAU _ _))))
        refine wpQuiet_nil ?_
        intro w2 hx2
        go_wp2
        rw [HE.out]
        refine bodyPost_ret (v := .tuple #[.int .i64 0, .int .i64 0, .bool false]) (by simp [results, Try.results51, go_sem]) rfl ?_
        exact ⟨rfl, hX.trans hx2⟩
      · have b6 : (r0 != sy) = true := by simp [hr0]
        have HE : Hid (R = (pq, 1, true)) := by unfold Hid; rw [HR.out]; simp only [stF, ← HR0.out]; rw [if_neg h0, if_pos ⟨h5, hr0⟩]
        clear h0 h5 hr0
        go_wp2_with fail
        refine wp_region_ext (by kernel_rfl) (by kernel_rfl) ?_
        repeat (go_big_quiet_step ((go_at_call 71; exact Calls.sameR (SAU _ _))))
        refine wpQuiet_nil ?_
        intro w2 hx2
        have v1 := hx2.cell u1
        go_wp2
        rw [HE.out]
        refine bodyPost_ret (v := .tuple #[.int .i64 pq, .int .i64 1, .bool true]) (by simp [results, Try.results51, go_sem]) rfl ?_
        exact ⟨rfl, hX.trans hx2⟩
    · have b5 : (pk == 5) = false := by simp [h5]
      have HE : Hid (R = (0, 0, false)) := by unfold Hid; rw [HR.out]; simp only [stF]; rw [if_neg h0, if_neg (fun h => h5 h.1)]
      clear h0 h5
      go_wp2_with fail
      refine wp_region_ext (by kernel_rfl) (by kernel_rfl) ?_
      repeat (go_big_quiet_step ((go_at_call 71; exact Calls.sameR (SAU _ _))))
      refine wpQuiet_nil ?_
      intro w2 hx2
      go_wp2
      rw [HE.out]
      refine bodyPost_ret (v := .tuple #[.int .i64 0, .int .i64 0, .bool false]) (by simp [results, Try.results51, go_sem]) rfl ?_
      exact ⟨rfl, hX.trans hx2⟩
end Go.Proofs.Ytejgobemlgogiaa
