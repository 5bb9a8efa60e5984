/- Contracts of the program's copy of a machine and of the closures that number anew. -/
import Derived.Test.YtheokhgppmmjlaaRenB
import Derived.Test.YtheokhgppmmjlaaDraw2
import Derived.Lib.SliceRun
set_option linter.unusedSimpArgs false
set_option linter.unusedVariables false
namespace Go.Proofs.Ytheokhgppmmjlaa
open Go Go.RowKit Go.Proofs
set_option maxHeartbeats 400000
theorem rvs_one (rs : List RuleD) : ∀ u ∈ rvs rs, u.oneCell' = true := by
  intro u hu
  simp only [rvs, List.mem_flatMap] at hu
  obtain ⟨r, _, hu⟩ := hu
  simp at hu
  rcases hu with rfl | rfl | rfl <;> rfl
set_option maxRecDepth 20000 in
theorem CloneR_c (v : Value) (rs : List RuleD) (w : World) (h : Rules w v rs) (h0 : 0 < rs.length) (h1 : rs.length ≤ 10000) :
    Calls Try.prog 56 #[v] w fun e w' => ∃ u, e = .returned u ∧ OwnRules w.heap.size w' u rs ∧ Ext w w' := by
  obtain ⟨i0, hi, hz0, hz1, hz2⟩ := info_parts ruleInfo2
  obtain ⟨A, c, rfl, _, _⟩ := h.form
  obtain ⟨b, off, rfl, hc⟩ := Row.at h h0
  have hown0 : (w.alloc (.cells #[] 55)).ownsRow w.heap.size 55 3 (.slice (some ⟨w.heap.size, 0, none⟩) 0 0) 0 [] :=
    World.ownsRow_made (base := w.heap.size) (e := 55) (size := 3) w #[] 0 (by simp) (by unfold maxLen; omega) (by simp)
  have hcl2 : ∀ j u, (rvs rs)[j]? = some u → (w.alloc (.cells #[] 55)).cell? ((⟨b, off, none⟩ : Addr).add j) = some u := by
    intro j u hj
    have hadd : (⟨b, off, none⟩ : Addr).add j = ⟨b, off + j, none⟩ := by unfold Addr.add; split <;> simp_all
    have hlt := (List.getElem?_eq_some_iff.1 hj).1
    rw [rvs_length] at hlt
    rw [hadd]
    exact (Ext.alloc _ _).cell ((hc j hlt).trans hj)
  have hm : 0 + rs.length ≤ maxLen := by unfold maxLen; omega
  have HC := Lib.hid hcl2
  have HO := Lib.hid hown0
  clear hcl2 hc hown0
  have q22 : ∀ (w : World) (a : Option Addr) (n c n' c' : Nat), (binOp .eql 24 (.slice a n c) (.slice none n' c')).run Try.prog w = .ok (.bool a.isNone) w := fun w a n c n' c' => Lib.run_eql_slice_nil w _ _ a n c n' c' Try.underlying24
  go_enter Try.func56, Try.ntmps56
  go_wp2_with (at_builtin; (refine wpList_append_own _ rfl _ _ 24 rfl w.heap.size 55 i0 _ 3 24 Try.underlying24 hi hz0 hz1 hz2 rfl (by decide) _ _ _ rfl HO.out ⟨b, off, none⟩ rs.length c (rvs rs) rfl (rvs_length rs) HC.out (rvs_one rs) hm (by omega) (by simp) ?_))
  intro v' w1 hown' hgrow _
  go_wp2
  go_ret
  refine ⟨_, rfl, ?_, (Ext.alloc _ _).grown hgrow (fun b hb => (HO.out.lt b hb).1)⟩
  simpa [OwnRules] using hown'
set_option maxRecDepth 20000 in
set_option maxHeartbeats 2000000 in
theorem copyMachine_c (m : MachD) (rv : Value) (w : World) (h : Rules w rv m.rules) (h0 : 0 < m.rules.length) (h1 : m.rules.length ≤ 10000) :
    Calls Try.prog 43 #[.agg #[.int .i64 m.sy, .int .i64 m.st, rv]] w fun e w' => ∃ u, e = .returned (.agg #[.int .i64 m.sy, .int .i64 m.st, u]) ∧ OwnRules w.heap.size w' u m.rules ∧ Ext w w' := by
  obtain ⟨A, c, rfl, _, _⟩ := id h.form
  obtain ⟨W, hW⟩ : ∃ W, W = (w.alloc (.cells #[.int .i64 m.sy, .int .i64 m.st, .slice A m.rules.length c] 26)).alloc (.cells #[.int .i64 0, .int .i64 0, .slice none 0 0] 26) := ⟨_, rfl⟩
  have hX : Ext w W := by rw [hW]; exact (Ext.alloc _ _).trans (Ext.alloc _ _)
  have bM : Blk W w.heap.size 26 #[.int .i64 m.sy, .int .i64 m.st, .slice A m.rules.length c] := by rw [hW]; exact (Blk.new _ _ _ _ rfl).alloc _
  have bR : Blk W (w.heap.size + 1) 26 #[.int .i64 0, .int .i64 0, .slice none 0 0] := by rw [hW]; exact Blk.new _ _ _ _ (by simp)
  have hsz : W.heap.size = w.heap.size + 2 := by rw [hW]; simp
  have m2 := bM.cell 2
  simp only [List.getElem?_toArray, List.getElem?_cons_zero, List.getElem?_cons_succ] at m2
  generalize hg : w.heap.size = g at *
  have HG := Lib.hid hg
  go_enter Try.func43, Try.ntmps43
  go_wp2_with fail
  rw [← hW]
  clear hW hg
  refine (CloneR_c _ m.rules W (h.ext hX) h0 h1).mono ?_
  rintro e w1 ⟨u, rfl, ho, hx⟩
  obtain ⟨Au, cu, rfl, _, _, _⟩ := (ownsRow_row ho).form
  have bM1 := bM.ext hx
  have bR1 := bR.ext hx
  have f2 := bM1.frozen 2
  have bM2 := bM1.set_ 2 (.slice Au m.rules.length cu)
  have bR2 := bR1.far (p := ⟨g, 2, none⟩) (by simp) (.slice Au m.rules.length cu)
  have p0 := bM1.cell 0
  have p1 := bM1.cell 1
  have p2 := bM1.cell 2
  have n0 := bM2.cell 0
  have n1 := bM2.cell 1
  have n2 := bM2.cell 2
  have r0 := bR2.cell 0
  have r1 := bR2.cell 1
  have r2 := bR2.cell 2
  have g0 := bR2.frozen 0
  have g1 := bR2.frozen 1
  have g2 := bR2.frozen 2
  have hsg : w.heap.size = g := HG.out
  have d := (((bR2.set_ 0 (.int .i64 m.sy)).set_ 1 (.int .i64 m.st)).set_ 2 (.slice Au m.rules.length cu)).cell
  simp only [List.getElem?_toArray, List.getElem?_cons_zero, List.getElem?_cons_succ, Array.setIfInBounds, List.setIfInBounds_toArray, List.set_cons_succ, List.set_cons_zero] at p0 p1 p2 n0 n1 n2 r0 r1 r2
  have ho0 : OwnRules g w1 (.slice Au m.rules.length cu) m.rules := ownsRow_base ho (by omega)
  have ho2 := ho
  have hfM := own_far_blk ho bM1 (by decide)
  have hfR := own_far_blk ho bR1 (by decide)
  have hXX := hX.trans hx
  clear ho
  go_wp2
  refine bodyPost_ret (v := .agg #[.int .i64 m.sy, .int .i64 m.st, .slice Au m.rules.length cu]) (by simp [results, Try.results43, go_sem, d]) rfl ⟨_, rfl, ?_, ?_⟩
  · exact ownsRow_far (ownsRow_far (ownsRow_far (ownsRow_far ho0 hfM _) hfR _) hfR _) hfR _
  · exact (((hXX.setCell (by simp only; omega) _).setCell (by simp only; omega) _).setCell (by simp only; omega) _).setCell (by simp only; omega) _
/-- A function value that answers a number for each number below n, in every world that extends w. -/
theorem clo1_c (k : Nat) (b : Nat) (ov : Value) (order : List Int) (w : World) (hb : w.cell? ⟨b, 0, none⟩ = some ov) (ho : Ints w ov order) (hk : k < order.length) :
    Calls Try.prog 23 #[.int .i64 k, .pointer (some ⟨b, 0, none⟩)] w fun e w' => e = .returned (.int .i64 order[k]) ∧ w = w' := by
  obtain ⟨A, c, rfl, _, _⟩ := id ho.form
  obtain ⟨b2, off, rfl, hc⟩ := ho.at hk
  have c0 := hc k hk
  clear hc
  go_enter Try.func23, Try.ntmps23
  go_wp2
  go_ret
  exact ⟨rfl, rfl⟩
theorem clo2_c (k : Nat) (b : Nat) (ov : Value) (order : List Int) (w : World) (hb : w.cell? ⟨b, 0, none⟩ = some ov) (ho : Ints w ov order) (hk : k < order.length) :
    Calls Try.prog 25 #[.int .i64 k, .pointer (some ⟨b, 0, none⟩)] w fun e w' => e = .returned (.int .i64 order[k]) ∧ w = w' := by
  obtain ⟨A, c, rfl, _, _⟩ := id ho.form
  obtain ⟨b2, off, rfl, hc⟩ := ho.at hk
  have c0 := hc k hk
  clear hc
  go_enter Try.func25, Try.ntmps25
  go_wp2
  go_ret
  exact ⟨rfl, rfl⟩
end Go.Proofs.Ytheokhgppmmjlaa
