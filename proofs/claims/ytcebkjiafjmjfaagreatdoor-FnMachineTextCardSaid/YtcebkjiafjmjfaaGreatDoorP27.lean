/- Contract: two equal machines are the same.
Contracts of the laws' and the reference's small functions on lists that number anew: r8Same, r8Moved, l05First, SortList, isOrder. -/
import Derived.Test.YtcebkjiafjmjfaaGreatDoorP03
import Derived.Test.YtcebkjiafjmjfaaGreatDoorP09
import Derived.Test.YtcebkjiafjmjfaaGreatDoorP15
import Derived.Test.YtcebkjiafjmjfaaGreatDoorP20
import Derived.Maps.AppendAt
section
set_option linter.unusedSimpArgs false
set_option linter.unusedVariables false
namespace Go.Proofs.YtcebkjiafjmjfaaGreatDoor
open Go Go.RowKit Go.Proofs
set_option maxHeartbeats 400000
set_option maxRecDepth 20000 in
set_option maxHeartbeats 4000000 in
theorem EqualR_c (v u : Value) (rs : List RuleD) (w : World) (hv : Rules w v rs) (hu : Rules w u rs) :
    Calls Tryz.prog 35 #[v, u] w fun e w' => e = .returned (.bool true) ∧ Ext w w' := by
  obtain ⟨A, c, rfl, h1, h1'⟩ := hv.form
  obtain ⟨B, d, rfl, h2, h2'⟩ := hu.form
  have rn := ruleNeq_run
  go_enter Tryz.func35, Tryz.ntmps35
  go_wp2_with fail
  go_loopw [13] (fun i wr => ∃ k : Nat, k ≤ rs.length ∧ i = .int .i64 (k : Int) ∧ Ext w wr) (fun i _ => rs.length - (intOf i).toNat)
  case atStart => exact ⟨0, Nat.zero_le _, rfl, Ext.refl _⟩
  case round =>
    obtain ⟨k, hk, rfl, hx⟩ := hrel
    by_cases hlt : k < rs.length
    · obtain ⟨b, off, rfl, hc⟩ := hv.at hlt
      obtain ⟨b', off', rfl, hc'⟩ := hu.at hlt
      obtain ⟨c0, c1, c2⟩ := hc k hlt
      obtain ⟨d0, d1, d2⟩ := hc' k hlt
      have hXd := hx.trans (Ext.drew wr)
      have c0 := hXd.cell c0
      have c1 := hXd.cell c1
      have c2 := hXd.cell c2
      have d0 := hXd.cell d0
      have d1 := hXd.cell d1
      have d2 := hXd.cell d2
      have hkI : (k : Int) < (rs.length : Int) := by omega
      generalize rs[k] = r at *
      have hre : rEq ⟨r.w, r.m, r.n⟩ ⟨r.w, r.m, r.n⟩ = true := by simp [rEq]
      clear hc hc' hv hu
      go_wp2_with fail
      refine wp_region_ordT 8 (readsT [0, 1, 2, 3, 4, 5, 6, 7] .done) (by kernel_rfl) (by kernel_rfl) (fun _ _ _ _ _ h => h) ?_
      simp only [readsT]
      iterate 8 (refine wpOrdT_read (v := ?_) (by rfl) (Or.inl ⟨by rfl, fun x hx => ?_⟩) ?_; rotate_left; (· have a1 := hx.cell c0; have a2 := hx.cell c1; have a3 := hx.cell c2; have a4 := hx.cell d0; have a5 := hx.cell d1; have a6 := hx.cell d2; go_simp; try with_reducible rfl); try simp only [Act.put, List.setIfInBounds_toArray, List.set_cons_zero, List.set_cons_succ])
      refine wpOrdT_done ?_
      try simp only [List.drop_succ_cons, List.drop_zero]
      change wpList _ _ _ _ _ wr.drew
      go_wp2
      go_roundw
      case rel => exact ⟨k + 1, by omega, by go_num, hXd⟩
      case measure => simp [intOf]; omega
    · have hge : ¬ (k : Int) < (rs.length : Int) := by omega
      go_wp2
      go_ret
      exact ⟨rfl, hx⟩
set_option maxRecDepth 20000 in
set_option maxHeartbeats 4000000 in
theorem SameMachine_c (mv uv : Value) (m : MachD) (w : World) (hr : Rules w mv m.rules) (hu : Rules w uv m.rules) :
    Calls Tryz.prog 11 #[.agg #[.int .i64 m.sy, .int .i64 m.st, mv], .agg #[.int .i64 m.sy, .int .i64 m.st, uv]] w fun e w' => e = .returned (.bool true) ∧ Ext w w' := by
  obtain ⟨A, c, rfl, _, _⟩ := id hr.form
  obtain ⟨B, d, rfl, _, _⟩ := id hu.form
  obtain ⟨W, hW⟩ : ∃ W, (w.alloc (.cells #[.int .i64 m.sy, .int .i64 m.st, .slice A m.rules.length c] 26)).alloc (.cells #[.int .i64 m.sy, .int .i64 m.st, .slice B m.rules.length d] 26) = W := ⟨_, rfl⟩
  have hX : Ext w W := by rw [← hW]; exact (Ext.alloc _ _).trans (Ext.alloc _ _)
  have bA : Blk W w.heap.size 26 #[.int .i64 m.sy, .int .i64 m.st, .slice A m.rules.length c] := by rw [← hW]; exact (Blk.new _ _ _ _ rfl).alloc _
  have bB : Blk W (w.heap.size + 1) 26 #[.int .i64 m.sy, .int .i64 m.st, .slice B m.rules.length d] := by rw [← hW]; exact Blk.new _ _ _ _ (by simp)
  have a0 := bA.cell 0
  have a1 := bA.cell 1
  have a2 := bA.cell 2
  have b0 := bB.cell 0
  have b1 := bB.cell 1
  have b2 := bB.cell 2
  simp only [List.getElem?_toArray, List.getElem?_cons_zero, List.getElem?_cons_succ] at a0 a1 a2 b0 b1 b2
  have hE := EqualR_c _ _ m.rules W (hr.ext hX) (hu.ext hX)
  go_enter Tryz.func11, Tryz.ntmps11
  go_wp2_with fail
  go_at_call 35
  refine hE.mono ?_
  rintro e w1 ⟨rfl, hx1⟩
  go_wp2
  go_ret
  exact ⟨rfl, hX.trans hx1⟩
end Go.Proofs.YtcebkjiafjmjfaaGreatDoor
end
section
set_option linter.unusedSimpArgs false
set_option linter.unusedVariables false
namespace Go.Proofs.YtcebkjiafjmjfaaGreatDoor
open Go Go.RowKit Go.Proofs
set_option maxHeartbeats 400000
theorem r8Same_c (w : World) (u v : Value) (xs ys : List Int) (ha : Ints w u xs) (hb : Ints w v ys) :
    Calls Tryz.prog 36 #[u, v] w fun e w' => e = .returned (.bool (lEq xs ys)) ∧ Ext w w' := by
  obtain ⟨A, ca, rfl, h1, h1'⟩ := ha.form
  obtain ⟨B, cb, rfl, h2, h2'⟩ := hb.form
  by_cases hl : xs.length = ys.length
  · have hl1 : ((xs.length : Int) != (ys.length : Int)) = false := by simp [hl]
    have hlle : xs.length ≤ ys.length := by omega
    have hlge : ys.length ≤ xs.length := by omega
    clear hl
    go_enter Tryz.func36, Tryz.ntmps36
    go_wp2
    go_loopw [5] (fun i wr => ∃ k : Nat, k ≤ xs.length ∧ i = .int .i64 k ∧ Ext w wr ∧ takeEq xs ys k) (fun i _ => xs.length - (intOf i).toNat)
    case atStart => exact ⟨0, Nat.zero_le _, rfl, Ext.refl _, rfl⟩
    case round =>
      obtain ⟨k, hk, rfl, hx, ht⟩ := hrel
      by_cases hlt : k < xs.length
      · obtain ⟨b, off, rfl, hc⟩ := ha.at hlt
        obtain ⟨b', off', rfl, hc'⟩ := hb.at (k := k) (by omega)
        have c0 := hx.cell (hc k hlt)
        have c0' := hx.cell (hc' k (by omega))
        clear hc hc' ha hb
        by_cases he : xs[k] = ys[k]
        · have H : (xs[k] != ys[k]) = false := by simp [he]
          have he' := Lib.hid he
          clear he
          go_wp2
          go_quiet (fail)
          go_wp2
          go_roundw
          case rel => exact ⟨k + 1, by omega, by go_num, hx.trans (Ext.drewN _ _), takeEq_step ht hlt (by omega) he'.out⟩
          case measure => simp [intOf]; omega
        · have H : (xs[k] != ys[k]) = true := by simp [he]
          go_wp2
          go_quiet (fail)
          go_wp2
          go_ret
          exact ⟨by simp [lEq_false (ne_of_get hlt (by omega) he)], hx.trans (Ext.drewN _ _)⟩
      · go_wp2
        go_ret
        exact ⟨by simp [lEq_true (eq_of_takeEq ht (by omega) (by omega))], hx⟩
  · have hl1 : ((xs.length : Int) != (ys.length : Int)) = true := by simp; omega
    go_enter Tryz.func36, Tryz.ntmps36
    go_wp2
    go_ret
    exact ⟨by simp [lEq_false (show ¬ xs = ys from fun h => hl (by rw [h]))], Ext.refl _⟩
/-- The numbers below n in order. -/
def upL (n : Nat) : List Int := (List.range n).map fun (i : Nat) => (i : Int)
theorem upL_len (n : Nat) : (upL n).length = n := by simp [upL]
theorem upL_succ (n : Nat) : upL (n + 1) = upL n ++ [(n : Int)] := by simp [upL, List.range_succ]
/-- A list in which each number is replaced by what stands at it in a list. -/
def movedL (xs order : List Int) : List Int := xs.map fun x => order.getD x.toNat 0
theorem movedL_snoc (xs order : List Int) (k : Nat) (h : k < xs.length) : movedL (xs.take (k + 1)) order = movedL (xs.take k) order ++ [order.getD xs[k].toNat 0] := by
  rw [List.take_succ_eq_append_getElem h]; unfold movedL; rw [List.map_append, List.map_cons, List.map_nil]
end Go.Proofs.YtcebkjiafjmjfaaGreatDoor
end
