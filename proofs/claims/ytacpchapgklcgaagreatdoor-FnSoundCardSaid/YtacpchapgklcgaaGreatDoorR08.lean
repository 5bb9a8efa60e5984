/- Contracts on automata: a number of symbols, the state to which a symbol leads, the state behind a word.
Contracts on automata, continued: the state behind a word of a valid automaton.
Contracts on a machine with two automata: it is valid. -/
import Derived.Test.YtacpchapgklcgaaGreatDoorR07
import Derived.Test.YtacpchapgklcgaaGreatDoorR04
section
set_option linter.unusedSimpArgs false
set_option linter.unusedVariables false
set_option linter.unusedSectionVars false
set_option maxHeartbeats 4000000
namespace Go.Proofs.YtacpchapgklcgaaGreatDoor
open Go Go.RowKit Go.Proofs
/-- A value that holds an automaton. -/
def Dfas (w : World) (v : Value) (d : DfaD) : Prop := ∃ rv, v = .agg #[.int .i64 d.st, rv] ∧ Ints w rv d.nx
theorem Dfas.ext {w w' : World} {v : Value} {d : DfaD} (h : Dfas w v d) (he : Ext w w') : Dfas w' v d := by
  obtain ⟨rv, e, hr⟩ := h
  exact ⟨rv, e, hr.ext he⟩
theorem box2 (w : World) (x y : Value) (t : TypeId) : ∃ w1 b, w.alloc (.cells #[x, y] t) = w1 ∧ w.heap.size = b ∧ Ext w w1 ∧ w1.cell? ⟨b, 0, none⟩ = some x ∧ w1.cell? ⟨b, 1, none⟩ = some y ∧ Blk w1 b t #[x, y] ∧ w1.heap.size = b + 1 :=
  ⟨_, _, rfl, rfl, Ext.alloc _ _, by simp, by simp, Blk.new _ _ _ _ rfl, by simp⟩
theorem symbolsOk_c (n : Int) (w : World) : Calls Tryz.prog 92 #[.int .i64 n] w fun e w' => e = .returned (.bool (inB n 2 6)) ∧ w = w' := by
  go_enter Tryz.func92, Tryz.ntmps92
  go_wp2_with (go_at_call 24; refine (within_c _ _ _ _).mono ?_; rintro e w' ⟨rfl, rfl⟩)
  go_ret
  exact ⟨rfl, rfl⟩
theorem to_c (v : Value) (d : DfaD) (sy s x : Int) (w : World) (h : Dfas w v d) (hd : dfaOk d sy = true) (s0 : 0 ≤ s) (s1 : s < d.st) (x0 : 0 ≤ x) (x1 : x < sy) :
    Calls Tryz.prog 119 #[v, .int .i64 s, .int .i64 x, .int .i64 sy] w fun e w' => e = .returned (.int .i64 (toD d s x sy)) ∧ Ext w w' := by
  obtain ⟨rv, rfl, hr⟩ := h
  obtain ⟨h1, h2, hlen, _, _⟩ := dfaOk_parts hd
  obtain ⟨k, hk, e, _, _⟩ := dfa_idx hd s0 s1 x0 x1
  obtain ⟨A, c, rfl, g1, g2⟩ := hr.form
  obtain ⟨b, off, rfl, hc⟩ := hr.at hk
  have c0 := hc k hk
  clear hc
  have hv : toD d s x sy = d.nx[k] := by
    unfold toD
    rw [e, Int.toNat_natCast, List.getD_eq_getElem?_getD, List.getElem?_eq_getElem hk, Option.getD_some]
  have hp0 : 0 ≤ s * sy := Int.mul_nonneg s0 (by omega)
  have hp1 : s * sy ≤ 120 := by
    have := Int.mul_le_mul (show s ≤ 20 by omega) (show sy ≤ 6 by omega) (by omega) (by omega)
    omega
  have hw1 : IntKind.i64.wrap (s * sy) = s * sy := IntWalk.i64_in _ (by omega)
  have hw2 : IntKind.i64.wrap (s * sy + x) = (k : Int) := by rw [IntWalk.i64_in _ (by omega), e]
  rw [hv]
  clear hlen
  obtain ⟨w1, bk, e1, e2, hx, p0, p1, bB, hz⟩ := box2 w (.int .i64 d.st) (.slice (some ⟨b, off, none⟩) d.nx.length c) 40
  have c1 := hx.cell c0
  subst e1 e2
  go_enter Tryz.func119, Tryz.ntmps119
  go_wp2
  go_ret
  exact ⟨rfl, hx⟩
theorem runD_lim {d : DfaD} {sy : Int} (hd : dfaOk d sy = true) {w : List Int} (hw : ∀ z ∈ w, 0 ≤ z ∧ z < sy) : 0 ≤ runD d sy w ∧ runD d sy w < d.st := by
  have := runD_range hd (w := w.reverse) (fun z hz => hw z (List.mem_reverse.1 hz))
  rwa [List.reverse_reverse] at this
theorem runD_take {d : DfaD} {sy : Int} (hd : dfaOk d sy = true) {w : List Int} {k : Nat} (hk : k < w.length) : runD d sy (w.take (k + 1)) = toD d (runD d sy (w.take k)) w[k] sy := by
  rw [List.take_succ_eq_append_getElem hk, runD_snoc hd]
theorem ValidDfa_c (v : Value) (d : DfaD) (sy : Int) (w : World) (h : Dfas w v d) (hd : dfaOk d sy = true) :
    Calls Tryz.prog 58 #[v, .int .i64 sy] w fun e w' => e = .returned (.bool true) ∧ Ext w w' := by
  obtain ⟨rv, rfl, hr⟩ := h
  obtain ⟨⟨h1, h1'⟩, ⟨h2, h2'⟩, hlen, hall, h0⟩ := dfaOk_parts hd
  obtain ⟨k, hk, e, _, _⟩ := dfa_idx hd (s := 0) (x := 0) (Int.le_refl _) (by omega) (Int.le_refl _) (by omega)
  obtain rfl : k = 0 := by omega
  obtain ⟨A, c, rfl, g1, g2⟩ := hr.form
  obtain ⟨b, off, rfl, hc⟩ := hr.at hk
  have hz : d.nx[0] = 0 := by
    rw [List.getD_eq_getElem?_getD, List.getElem?_eq_getElem hk, Option.getD_some] at h0
    exact h0
  have c0 := hc 0 hk
  rw [hz] at c0
  clear hc hz h0
  simp only [Nat.add_zero] at c0
  have hw1 : IntKind.i64.wrap (d.st * sy) = d.st * sy := IntWalk.i64_in _ (by
    have := Int.mul_le_mul h2' h1' (by omega) (by omega)
    have := Int.mul_nonneg (show 0 ≤ d.st by omega) (show 0 ≤ sy by omega)
    omega)
  have hB1 : inB sy 2 6 = true := inB_iff.2 ⟨h1, h1'⟩
  have hB2 : inB d.st 1 20 = true := inB_iff.2 ⟨h2, h2'⟩
  have hB3 : (d.nx.all fun z => inB z 0 (d.st - 1)) = true := by
    rw [List.all_eq_true]
    intro z hz
    have := hall z hz
    exact inB_iff.2 (by omega)
  have hl1 : ((d.nx.length : Int) == d.st * sy) = true := by simp [hlen]
  clear hlen hall
  obtain ⟨w1, bk, e1, e2, hx, p0, p1, bB, hsz⟩ := box2 w (.int .i64 d.st) (.slice (some ⟨b, off, none⟩) d.nx.length c) 40
  have E1 := Lib.hid e1
  have E2 := Lib.hid e2
  clear e1 e2
  have d0 := cellR p0
  have d1 := cellR p1
  have d2 := cellR (hx.cell c0)
  have hr1 := hr.ext hx
  have hS1 := fun W => symbolsOk_c sy W
  have hS2 := fun W => within_c d.st 1 20 W
  have hS3 := fun D os => allWithin_c _ _ 0 (d.st - 1) _ (hr1.ext (below_regrown w1 D os))
  simp only [hB1] at hS1
  simp only [hB2] at hS2
  simp only [hB3] at hS3
  go_enter Tryz.func58, Tryz.ntmps58
  go_wp2
  rw [E1.out, E2.out]
  refine wp_region_ext (by kernel_rfl) (by kernel_rfl) ?_
  repeat (go_big_quiet_step ((first | (go_at_call 92; exact Calls.sameR (hS1 _)) | (go_at_call 24; exact Calls.sameR (hS2 _)) | (go_at_call 40; exact Calls.sameR (sizeInt_c _ _ _ (hr1.ext (below_regrown _ _ _)))) | (go_at_call 84; exact Calls.sameR (hS3 _ _)))))
  refine wpQuiet_nil ?_
  intro w2 hx2
  go_wp2
  go_ret
  exact ⟨rfl, hx.trans hx2⟩
end Go.Proofs.YtacpchapgklcgaaGreatDoor
end
section
set_option linter.unusedSimpArgs false
set_option linter.unusedVariables false
set_option linter.unusedSectionVars false
set_option maxHeartbeats 4000000
namespace Go.Proofs.YtacpchapgklcgaaGreatDoor
open Go Go.RowKit Go.Proofs
end Go.Proofs.YtacpchapgklcgaaGreatDoor
end
section
set_option linter.unusedSimpArgs false
set_option linter.unusedVariables false
set_option linter.unusedSectionVars false
set_option maxHeartbeats 4000000
namespace Go.Proofs.YtacpchapgklcgaaGreatDoor
open Go Go.RowKit Go.Proofs
/-- A value that holds a machine with two automata. -/
def Autos (w : World) (v : Value) (m : MachD) (L R : DfaD) : Prop := ∃ rv lv tv, v = .agg #[.int .i64 m.sy, .int .i64 m.st, rv, .int .i64 L.st, lv, .int .i64 R.st, tv] ∧ Rules w rv m.rules ∧ Ints w lv L.nx ∧ Ints w tv R.nx
theorem Autos.ext {w w' : World} {v : Value} {m : MachD} {L R : DfaD} (h : Autos w v m L R) (he : Ext w w') : Autos w' v m L R := by
  obtain ⟨rv, lv, tv, e, h1, h2, h3⟩ := h
  exact ⟨rv, lv, tv, e, h1.ext he, h2.ext he, h3.ext he⟩
theorem valid_autos_c (v : Value) (m : MachD) (L R : DfaD) (w : World) (h : Autos w v m L R) (hm : machOk m = true) (hL : dfaOk L m.sy = true) (hR : dfaOk R m.sy = true) :
    Calls Tryz.prog 28 #[v] w fun e w' => e = .returned (.bool true) ∧ Ext w w' := by
  obtain ⟨rv, lv, tv, rfl, h1, h2, h3⟩ := h
  obtain ⟨W, hW⟩ : ∃ W, W = w.alloc (.cells #[.int .i64 m.sy, .int .i64 m.st, rv, .int .i64 L.st, lv, .int .i64 R.st, tv] 66) := ⟨_, rfl⟩
  have hX : Ext w W := by rw [hW]; exact Ext.alloc _ _
  have bA : Blk W w.heap.size 66 #[.int .i64 m.sy, .int .i64 m.st, rv, .int .i64 L.st, lv, .int .i64 R.st, tv] := by rw [hW]; exact Blk.new _ _ _ _ rfl
  have c0 := bA.cell 0
  have c1 := bA.cell 1
  have c2 := bA.cell 2
  have c3 := bA.cell 3
  have c4 := bA.cell 4
  have c5 := bA.cell 5
  have c6 := bA.cell 6
  simp only [List.getElem?_toArray, List.getElem?_cons_zero, List.getElem?_cons_succ] at c0 c1 c2 c3 c4 c5 c6
  go_enter Tryz.func28, Tryz.ntmps28
  go_wp2_with fail
  rw [← hW]
  clear hW
  refine (ValidMachine_c _ m W ⟨_, rfl, h1.ext hX⟩).mono ?_
  rintro e w2 ⟨rfl, hx2⟩
  have d0 := hx2.cell c0
  have d3 := hx2.cell c3
  have d4 := hx2.cell c4
  have d5 := hx2.cell c5
  have d6 := hx2.cell c6
  clear c0 c1 c2 c3 c4 c5 c6
  rw [hm]
  go_wp2_with fail
  refine (ValidDfa_c _ L m.sy w2 ⟨_, rfl, (h2.ext hX).ext hx2⟩ hL).mono ?_
  rintro e w3 ⟨rfl, hx3⟩
  have c0 := hx3.cell d0
  have c5 := hx3.cell d5
  have c6 := hx3.cell d6
  clear d0 d3 d4 d5 d6
  go_wp2_with fail
  refine (ValidDfa_c _ R m.sy w3 ⟨_, rfl, ((h3.ext hX).ext hx2).ext hx3⟩ hR).mono ?_
  rintro e w4 ⟨rfl, hx4⟩
  go_wp2
  go_ret
  exact ⟨rfl, ((hX.trans hx2).trans hx3).trans hx4⟩
end Go.Proofs.YtacpchapgklcgaaGreatDoor
end
