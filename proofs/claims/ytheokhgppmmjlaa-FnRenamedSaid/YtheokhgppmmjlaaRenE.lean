/- The contracts of the program's RenameStates and SwapSymbols at a valid machine and an order. Written by mkrene.py. -/
import Derived.Test.YtheokhgppmmjlaaRenD
set_option linter.unusedSimpArgs false
set_option linter.unusedVariables false
namespace Go.Proofs.Ytheokhgppmmjlaa
open Go Go.RowKit Go.Proofs
set_option maxHeartbeats 400000
/-- What stands in a list at a number. -/
def pickL (order : List Int) (z : Int) : Int := order.getD z.toNat 0
theorem isOrd_range {order : List Int} {n : Int} (h : isOrd order n = true) : (order.length : Int) = n ∧ ∀ x ∈ order, 0 ≤ x ∧ x < n := by
  simp only [isOrd, Bool.and_eq_true, decide_eq_true_eq] at h
  refine ⟨h.1, fun x hx => ?_⟩
  have hm : x ∈ sortL order := (List.mergeSort_perm order _).mem_iff.2 hx
  rw [h.2] at hm
  simp only [upL, List.mem_map, List.mem_range] at hm
  obtain ⟨k, hk, rfl⟩ := hm
  omega
theorem pickL_range {order : List Int} {n : Int} (h : isOrd order n = true) : ∀ z, 0 ≤ z → z < n → 0 ≤ pickL order z ∧ pickL order z < n := by
  obtain ⟨hl, ha⟩ := isOrd_range h
  intro z h0 h1
  have hz : z.toNat < order.length := by omega
  have e : pickL order z = order[z.toNat] := by unfold pickL; rw [List.getD_eq_getElem?_getD, List.getElem?_eq_getElem hz]; rfl
  rw [e]
  exact ha _ (List.getElem_mem hz)
theorem pickL_c1 {order : List Int} {n : Int} (h : isOrd order n = true) (b : Nat) (ov : Value) (w : World) (hb : w.cell? ⟨b, 0, none⟩ = some ov) (ho : Ints w ov order) :
    ∀ W z, Ext w W → 0 ≤ z → z < n → Calls Try.prog 23 #[.int .i64 z, .pointer (some ⟨b, 0, none⟩)] W fun e w' => e = .returned (.int .i64 (pickL order z)) ∧ W = w' := by
  obtain ⟨hl, _⟩ := isOrd_range h
  intro W z hW h0 h1
  obtain ⟨k, rfl⟩ := Int.eq_ofNat_of_zero_le h0
  have hk : k < order.length := by omega
  have e : pickL order (k : Int) = order[k] := by unfold pickL; rw [Int.toNat_natCast, List.getD_eq_getElem?_getD, List.getElem?_eq_getElem hk]; rfl
  rw [e]
  exact clo1_c k b ov order W (hW.cell hb) (ho.ext hW) hk
theorem pickL_c2 {order : List Int} {n : Int} (h : isOrd order n = true) (b : Nat) (ov : Value) (w : World) (hb : w.cell? ⟨b, 0, none⟩ = some ov) (ho : Ints w ov order) :
    ∀ W z, Ext w W → 0 ≤ z → z < n → Calls Try.prog 25 #[.int .i64 z, .pointer (some ⟨b, 0, none⟩)] W fun e w' => e = .returned (.int .i64 (pickL order z)) ∧ W = w' := by
  obtain ⟨hl, _⟩ := isOrd_range h
  intro W z hW h0 h1
  obtain ⟨k, rfl⟩ := Int.eq_ofNat_of_zero_le h0
  have hk : k < order.length := by omega
  have e : pickL order (k : Int) = order[k] := by unfold pickL; rw [Int.toNat_natCast, List.getD_eq_getElem?_getD, List.getElem?_eq_getElem hk]; rfl
  rw [e]
  exact clo2_c k b ov order W (hW.cell hb) (ho.ext hW) hk
theorem id_range (n : Int) : ∀ z, 0 ≤ z → z < n → 0 ≤ (fun z : Int => z) z ∧ (fun z : Int => z) z < n := fun z h0 h1 => ⟨h0, h1⟩
set_option maxRecDepth 20000 in
set_option maxHeartbeats 4000000 in
theorem RenameStates_c (m : MachD) (rv ov : Value) (order : List Int) (w : World) (hr : Rules w rv m.rules) (ho : Ints w ov order) (hm : machOk m = true) (hord : isOrd order m.st = true) :
    Calls Try.prog 7 #[.agg #[.int .i64 m.sy, .int .i64 m.st, rv], ov] w fun e w' => ∃ u, e = .returned (.tuple #[.agg #[.int .i64 m.sy, .int .i64 m.st, u], .int .i64 0]) ∧ OwnRules w.heap.size w' u (renM m (pickL order) (fun z => z)).rules ∧ Ext w w' := by
  obtain ⟨⟨s1, s2, s3, s4⟩, hl, hall⟩ := machOk_five hm
  obtain ⟨hol, _⟩ := isOrd_range hord
  obtain ⟨A, c, rfl, hc1, hc2⟩ := id hr.form
  obtain ⟨B, d, rfl, hd1, hd2⟩ := id ho.form
  obtain ⟨W, hW⟩ : ∃ W, W = ((w.alloc (.cells #[.int .i64 m.sy, .int .i64 m.st, .slice A m.rules.length c] 26)).alloc (.cells #[.slice B order.length d] 27)).alloc (.cells #[.int .i64 0, .int .i64 0, .slice none 0 0] 26) := ⟨_, rfl⟩
  have hX : Ext w W := by rw [hW]; exact ((Ext.alloc _ _).trans (Ext.alloc _ _)).trans (Ext.alloc _ _)
  have bM : Blk W w.heap.size 26 #[.int .i64 m.sy, .int .i64 m.st, .slice A m.rules.length c] := by rw [hW]; exact ((Blk.new _ _ _ _ rfl).alloc _).alloc _
  have bO : Blk W (w.heap.size + 1) 27 #[.slice B order.length d] := by rw [hW]; exact (Blk.new _ _ _ _ (by simp)).alloc _
  have bR : Blk W (w.heap.size + 2) 26 #[.int .i64 0, .int .i64 0, .slice none 0 0] := by rw [hW]; exact Blk.new _ _ _ _ (by simp)
  have HL := Lib.hid hl
  have HALL := Lib.hid hall
  have HOL := Lib.hid hol
  clear hl hall hol
  have m0 := bM.cell 0
  have m1 := bM.cell 1
  have m2 := bM.cell 2
  simp only [List.getElem?_toArray, List.getElem?_cons_zero, List.getElem?_cons_succ] at m0 m1 m2
  rw [hW] at m0 m1 m2
  generalize hg : w.heap.size = g at *
  have HG := Lib.hid hg
  go_enter Try.func7, Try.ntmps7
  go_wp2_with fail
  rw [← hW]
  clear hW hg m0 m1 m2
  refine (ValidMachine_c _ m W ⟨_, rfl, hr.ext hX⟩).mono ?_
  rintro e w1 ⟨rfl, hx1⟩
  rw [hm]
  have hX1 := hX.trans hx1
  have bM1 := bM.ext hx1
  have bO1 := bO.ext hx1
  have bR1 := bR.ext hx1
  have o0 := bO1.cell 0
  have m0 := bM1.cell 0
  have m1 := bM1.cell 1
  simp only [List.getElem?_toArray, List.getElem?_cons_zero, List.getElem?_cons_succ] at m0 m1 o0
  go_wp2_with fail
  refine (isOrder_c _ order m.st w1 (ho.ext hX1) (by have := HOL.out; omega) (by have := HOL.out; omega)).mono ?_
  rintro e w2 ⟨rfl, hx2⟩
  rw [hord]
  clear m0 m1 o0 bM bO bR
  have hX2 := hX1.trans hx2
  have bM2 := bM1.ext hx2
  have bO2 := bO1.ext hx2
  have bR2 := bR1.ext hx2
  have o0 := bO2.cell 0
  have m0 := bM2.cell 0
  have m1 := bM2.cell 1
  have m2 := bM2.cell 2
  simp only [List.getElem?_toArray, List.getElem?_cons_zero, List.getElem?_cons_succ] at m0 m1 m2 o0
  have io2 := ho.ext hX2
  go_wp2_with fail
  refine (renumS_c m _ (g + 1) (pickL order) (fun z => z) w2 (hr.ext hX2) hm (pickL_range hord) (id_range m.sy) (pickL_c1 hord (g + 1) _ w2 o0 io2) (fun W z _ _ _ => same_c z W)).mono ?_
  rintro e w3 ⟨u, rfl, hown, hx3⟩
  obtain ⟨Au, cu, rfl, _, _, _⟩ := (ownsRow_row hown).form
  have hX3 := hX2.trans hx3
  have bR3 := bR2.ext hx3
  have r0 := bR3.cell 0
  have r1 := bR3.cell 1
  have r2 := bR3.cell 2
  have f0 := bR3.frozen 0
  have f1 := bR3.frozen 1
  have f2 := bR3.frozen 2
  simp only [List.getElem?_toArray, List.getElem?_cons_zero, List.getElem?_cons_succ] at r0 r1 r2
  have dd := (((bR3.set_ 0 (.int .i64 m.sy)).set_ 1 (.int .i64 m.st)).set_ 2 (.slice Au (renM m (pickL order) (fun z => z)).rules.length cu)).cell
  have hf := own_far_blk hown bR3 (by decide)
  have hsg : w.heap.size = g := HG.out
  have hs2 := hX2.size
  have ho9 : OwnRules g w3 (.slice Au (renM m (pickL order) (fun z => z)).rules.length cu) (renM m (pickL order) (fun z => z)).rules := ownsRow_base hown (by omega)
  clear m0 m1 m2 o0 bM1 bO1 bR1 bM2 bO2 bR2 hown
  generalize hmm : renM m (pickL order) (fun z => z) = mm at *
  go_wp2
  refine bodyPost_ret (v := .tuple #[.agg #[.int .i64 m.sy, .int .i64 m.st, .slice Au mm.rules.length cu], .int .i64 0]) (by simp [results, Try.results7, go_sem, dd]) rfl ⟨_, rfl, ?_, ?_⟩
  · rw [hmm]
    exact ownsRow_far (p := ⟨g + 2, 2, none⟩) (ownsRow_far (p := ⟨g + 2, 1, none⟩) (ownsRow_far (p := ⟨g + 2, 0, none⟩) ho9 hf _) hf _) hf _
  · exact ((hX3.setCell (by simp only; omega) _).setCell (by simp only; omega) _).setCell (by simp only; omega) _
set_option maxRecDepth 20000 in
set_option maxHeartbeats 4000000 in
theorem SwapSymbols_c (m : MachD) (rv ov : Value) (order : List Int) (w : World) (hr : Rules w rv m.rules) (ho : Ints w ov order) (hm : machOk m = true) (hord : isOrd order m.sy = true) (h00 : order.getD 0 0 = 0) :
    Calls Try.prog 8 #[.agg #[.int .i64 m.sy, .int .i64 m.st, rv], ov] w fun e w' => ∃ u, e = .returned (.tuple #[.agg #[.int .i64 m.sy, .int .i64 m.st, u], .int .i64 0]) ∧ OwnRules w.heap.size w' u (renM m (fun z => z) (pickL order)).rules ∧ Ext w w' := by
  obtain ⟨⟨s1, s2, s3, s4⟩, hl, hall⟩ := machOk_five hm
  obtain ⟨hol, _⟩ := isOrd_range hord
  obtain ⟨A, c, rfl, hc1, hc2⟩ := id hr.form
  obtain ⟨B, d, rfl, hd1, hd2⟩ := id ho.form
  obtain ⟨W, hW⟩ : ∃ W, W = ((w.alloc (.cells #[.int .i64 m.sy, .int .i64 m.st, .slice A m.rules.length c] 26)).alloc (.cells #[.slice B order.length d] 27)).alloc (.cells #[.int .i64 0, .int .i64 0, .slice none 0 0] 26) := ⟨_, rfl⟩
  have hX : Ext w W := by rw [hW]; exact ((Ext.alloc _ _).trans (Ext.alloc _ _)).trans (Ext.alloc _ _)
  have bM : Blk W w.heap.size 26 #[.int .i64 m.sy, .int .i64 m.st, .slice A m.rules.length c] := by rw [hW]; exact ((Blk.new _ _ _ _ rfl).alloc _).alloc _
  have bO : Blk W (w.heap.size + 1) 27 #[.slice B order.length d] := by rw [hW]; exact (Blk.new _ _ _ _ (by simp)).alloc _
  have bR : Blk W (w.heap.size + 2) 26 #[.int .i64 0, .int .i64 0, .slice none 0 0] := by rw [hW]; exact Blk.new _ _ _ _ (by simp)
  have HL := Lib.hid hl
  have HALL := Lib.hid hall
  have HOL := Lib.hid hol
  clear hl hall hol
  have m0 := bM.cell 0
  have m1 := bM.cell 1
  have m2 := bM.cell 2
  simp only [List.getElem?_toArray, List.getElem?_cons_zero, List.getElem?_cons_succ] at m0 m1 m2
  rw [hW] at m0 m1 m2
  generalize hg : w.heap.size = g at *
  have HG := Lib.hid hg
  go_enter Try.func8, Try.ntmps8
  go_wp2_with fail
  rw [← hW]
  clear hW hg m0 m1 m2
  refine (ValidMachine_c _ m W ⟨_, rfl, hr.ext hX⟩).mono ?_
  rintro e w1 ⟨rfl, hx1⟩
  rw [hm]
  have hX1 := hX.trans hx1
  have bM1 := bM.ext hx1
  have bO1 := bO.ext hx1
  have bR1 := bR.ext hx1
  have o0 := bO1.cell 0
  have m0 := bM1.cell 0
  have m1 := bM1.cell 1
  simp only [List.getElem?_toArray, List.getElem?_cons_zero, List.getElem?_cons_succ] at m0 m1 o0
  go_wp2_with fail
  refine (isOrder_c _ order m.sy w1 (ho.ext hX1) (by have := HOL.out; omega) (by have := HOL.out; omega)).mono ?_
  rintro e w2 ⟨rfl, hx2⟩
  rw [hord]
  clear m0 m1 o0 bM bO bR
  have hX2 := hX1.trans hx2
  have bM2 := bM1.ext hx2
  have bO2 := bO1.ext hx2
  have bR2 := bR1.ext hx2
  have o0 := bO2.cell 0
  have m0 := bM2.cell 0
  have m1 := bM2.cell 1
  have m2 := bM2.cell 2
  simp only [List.getElem?_toArray, List.getElem?_cons_zero, List.getElem?_cons_succ] at m0 m1 m2 o0
  have io2 := ho.ext hX2
  have hz0 : 0 < order.length := by have := HOL.out; omega
  obtain ⟨b2, off2, rfl, hcz⟩ := io2.at hz0
  have cz := hcz 0 hz0
  have e00 : order[0] = 0 := by rw [List.getD_eq_getElem?_getD, List.getElem?_eq_getElem hz0] at h00; exact h00
  rw [e00] at cz
  simp only [Nat.add_zero] at cz
  clear hcz e00
  go_wp2_with fail
  refine (renumY_c m _ (g + 1) (fun z => z) (pickL order) w2 (hr.ext hX2) hm (id_range m.st) (pickL_range hord) (fun W z _ _ _ => same_c z W) (pickL_c2 hord (g + 1) _ w2 o0 io2)).mono ?_
  rintro e w3 ⟨u, rfl, hown, hx3⟩
  obtain ⟨Au, cu, rfl, _, _, _⟩ := (ownsRow_row hown).form
  have hX3 := hX2.trans hx3
  have bR3 := bR2.ext hx3
  have r0 := bR3.cell 0
  have r1 := bR3.cell 1
  have r2 := bR3.cell 2
  have f0 := bR3.frozen 0
  have f1 := bR3.frozen 1
  have f2 := bR3.frozen 2
  simp only [List.getElem?_toArray, List.getElem?_cons_zero, List.getElem?_cons_succ] at r0 r1 r2
  have dd := (((bR3.set_ 0 (.int .i64 m.sy)).set_ 1 (.int .i64 m.st)).set_ 2 (.slice Au (renM m (fun z => z) (pickL order)).rules.length cu)).cell
  have hf := own_far_blk hown bR3 (by decide)
  have hsg : w.heap.size = g := HG.out
  have hs2 := hX2.size
  have ho9 : OwnRules g w3 (.slice Au (renM m (fun z => z) (pickL order)).rules.length cu) (renM m (fun z => z) (pickL order)).rules := ownsRow_base hown (by omega)
  clear m0 m1 m2 o0 bM1 bO1 bR1 bM2 bO2 bR2 hown
  generalize hmm : renM m (fun z => z) (pickL order) = mm at *
  go_wp2
  refine bodyPost_ret (v := .tuple #[.agg #[.int .i64 m.sy, .int .i64 m.st, .slice Au mm.rules.length cu], .int .i64 0]) (by simp [results, Try.results8, go_sem, dd]) rfl ⟨_, rfl, ?_, ?_⟩
  · rw [hmm]
    exact ownsRow_far (p := ⟨g + 2, 2, none⟩) (ownsRow_far (p := ⟨g + 2, 1, none⟩) (ownsRow_far (p := ⟨g + 2, 0, none⟩) ho9 hf _) hf _) hf _
  · exact ((hX3.setCell (by simp only; omega) _).setCell (by simp only; omega) _).setCell (by simp only; omega) _
end Go.Proofs.Ytheokhgppmmjlaa
