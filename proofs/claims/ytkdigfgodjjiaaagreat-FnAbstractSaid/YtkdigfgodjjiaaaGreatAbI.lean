/- Contracts on outlines: two are equal, one is in a list. -/
import Derived.Test.YtkdigfgodjjiaaaGreatAbH
set_option linter.unusedSimpArgs false
set_option linter.unusedVariables false
set_option linter.unusedSectionVars false
set_option maxHeartbeats 4000000
namespace Go.Proofs.YtkdigfgodjjiaaaGreat
open Go Go.RowKit Go.Proofs Go.Maps
theorem outGuard : Tryz.prog.eqGuardType Tryz.prog.depth 68 = false := by kernel_rfl
theorem outSz (w : World) : (Go.sizeOf 2).run Tryz.prog w = .ok 1 w := by kernel_rfl
theorem outPart (w : World) (xs : Array Value) (k : Nat) (z : Int) (h : xs[k]? = some (.int .i64 z)) : (part 2 xs k).run Tryz.prog w = .ok (.int .i64 z) w := by
  simp [part, go_sem, h]
theorem outEqualD (d : Nat) (w : World) (a b : Outl) : (Op.equalIn (d + 1 + 1) 68 (outV a) (outV b)).run Tryz.prog w = .ok (decide (a = b)) w := by
  obtain ⟨a1, a2, a3, a4⟩ := a
  obtain ⟨b1, b2, b3, b4⟩ := b
  have hq : ∀ (x y : Int) (w : World), (Op.equalIn (d + 1) 2 (.int .i64 x) (.int .i64 y)).run Tryz.prog w = .ok (x == y) w := fun x y w => run_equalIn_int w d _ _ _ x y Tryz.underlying2
  unfold Op.equalIn
  simp only [outV, Sem.run_bind, run_underlying Tryz.underlying68, Result.andThen_ok, outSz]
  simp only [Std.Legacy.Range.forIn_eq_forIn_range', Std.Legacy.Range.size]
  have hr : List.range' 0 ((4 - 0 + 1 - 1) / 1) = [0, 1, 2, 3] := rfl
  have pa : ∀ (k : Nat) (z : Int) (w : World), (#[Value.int IntKind.i64 a1, .int .i64 a2, .int .i64 a3, .int .i64 a4])[k]? = some (.int .i64 z) → (part 2 #[Value.int IntKind.i64 a1, .int .i64 a2, .int .i64 a3, .int .i64 a4] k).run Tryz.prog w = .ok (.int .i64 z) w := fun k z w h => outPart w _ k z h
  have pb : ∀ (k : Nat) (z : Int) (w : World), (#[Value.int IntKind.i64 b1, .int .i64 b2, .int .i64 b3, .int .i64 b4])[k]? = some (.int .i64 z) → (part 2 #[Value.int IntKind.i64 b1, .int .i64 b2, .int .i64 b3, .int .i64 b4] k).run Tryz.prog w = .ok (.int .i64 z) w := fun k z w h => outPart w _ k z h
  rw [hr]
  have qa := pa 0 a1 w rfl
  have qb := pa 1 a2 w rfl
  have qc := pa 2 a3 w rfl
  have qd := pa 3 a4 w rfl
  have ra := pb 0 b1 w rfl
  have rb := pb 1 b2 w rfl
  have rc := pb 2 b3 w rfl
  have rd := pb 3 b4 w rfl
  clear pa pb
  by_cases h1 : a1 = b1
  · by_cases h2 : a2 = b2
    · by_cases h3 : a3 = b3
      · by_cases h4 : a4 = b4
        · subst h1 h2 h3 h4
          simp [Nat.mul_one, qa, qb, qc, qd, ra, rb, rc, rd, hq]
        · have h4' : (a4 == b4) = false := by simpa using h4
          subst h1 h2 h3
          simp [Nat.mul_one, qa, qb, qc, qd, ra, rb, rc, rd, hq, h4, h4']
      · have h3' : (a3 == b3) = false := by simpa using h3
        subst h1 h2
        simp [Nat.mul_one, qa, qb, qc, qd, ra, rb, rc, rd, hq, h3, h3']
    · have h2' : (a2 == b2) = false := by simpa using h2
      subst h1
      simp [Nat.mul_one, qa, qb, qc, qd, ra, rb, rc, rd, hq, h2, h2']
  · have h1' : (a1 == b1) = false := by simpa using h1
    simp [Nat.mul_one, qa, qb, qc, qd, ra, rb, rc, rd, hq, h1, h1']
theorem outEqual (w : World) (a b : Outl) : (Op.equalIn 10000 68 (outV a) (outV b)).run Tryz.prog w = .ok (decide (a = b)) w := outEqualD 9998 w a b
theorem outEql_run (w : World) (a b : Outl) : (binOp .eql 68 (outV a) (outV b)).run Tryz.prog w = .ok (.bool (decide (a = b))) w := by
  show (binOp .eql 68 (.agg _) (.agg _)).run Tryz.prog w = _
  rw [run_eql_struct]
  have := outEqual w a b
  simp only [outV] at this
  rw [this]
  rfl
attribute [go_sem] outGuard
/-- No outline among the first k. -/
def notInO (a : Outl) (l : List Outl) (k : Nat) : Prop := ∀ j, j < k → (h : j < l.length) → ¬ a = l[j]
theorem indexO_c (v : Value) (l : List Outl) (a : Outl) (base : Nat) (w : World) (h : w.ownsRow base 68 4 v l.length (ovs l)) :
    Calls Tryz.prog 56 #[v, outV a] w fun e w' => (∃ k : Int, e = .returned (.int .i64 k) ∧ decide (0 ≤ k) = decide (a ∈ l)) ∧ Ext w w' := by
  obtain ⟨A, c, rfl, g1, g2, _⟩ := (ownsRow_row h).form
  obtain ⟨W, hW⟩ : ∃ W, W = w.alloc (.cells #[.int .i64 a.1, .int .i64 a.2.1, .int .i64 a.2.2.1, .int .i64 a.2.2.2] 68) := ⟨_, rfl⟩
  have hXW : Ext w W := by rw [hW]; exact Ext.alloc _ _
  have bX : Blk W w.heap.size 68 #[.int .i64 a.1, .int .i64 a.2.1, .int .i64 a.2.2.1, .int .i64 a.2.2.2] := by rw [hW]; exact Blk.new _ _ _ _ rfl
  generalize hg0 : w.heap.size = g0 at *
  go_enter Tryz.func56, Tryz.ntmps56
  simp only [outV]
  go_wp2_with fail
  rw [← hW]
  clear hW
  go_loopw [8] (fun i wr => ∃ k : Nat, k ≤ l.length ∧ i = .int .i64 k ∧ notInO a l k ∧ Ext W wr) (fun i _ => l.length - (intOf i).toNat)
  case atStart => exact ⟨0, Nat.zero_le _, rfl, fun j hj => by omega, .refl _⟩
  case round =>
    obtain ⟨k, hk, rfl, hn, hX⟩ := hrel
    by_cases hlt : k < l.length
    · obtain ⟨gl, rfl, l0, l1, l2, l3⟩ := ovs_at (ownsRow_ext h (hXW.trans hX)) hlt
      have bX2 := bX.ext hX
      have x0 := bX2.cell 0
      have x1 := bX2.cell 1
      have x2 := bX2.cell 2
      have x3 := bX2.cell 3
      simp only [List.getElem?_toArray, List.getElem?_cons_zero, List.getElem?_cons_succ] at x0 x1 x2 x3
      have d0 := cellR x0
      have d1 := cellR x1
      have d2 := cellR x2
      have d3 := cellR x3
      have e0 := cellR l0
      have e1 := cellR l1
      have e2 := cellR l2
      have e3 := cellR l3
      have HE := fun W' => outEql_run W' a l[k]
      simp only [outV] at HE
      have hstep : Hid (¬ a = l[k] → notInO a l (k + 1)) := Lib.hid fun hne j hj hl => by
        by_cases hjk : j = k
        · subst hjk; exact hne
        · exact hn j (by omega) hl
      have hin : Hid (a = l[k] → a ∈ l) := Lib.hid fun e => e ▸ List.getElem_mem hlt
      have hN := Lib.hid hn
      have i1 : (0 : Int) ≤ (k : Int) := by omega
      have i2 : (k : Int) < (l.length : Int) := by omega
      clear hn bX2
      generalize l[k] = y at *
      go_wp2_with fail
      refine wp_region_ext (by kernel_rfl) (by kernel_rfl) ?_
      repeat (go_big_quiet_step (fail))
      refine wpQuiet_nil ?_
      intro w2 hx2
      by_cases he : a = y
      · have hm := hin.out he
        have ed : decide (a = y) = true := decide_eq_true he
        rw [ed]
        go_wp2
        go_ret
        refine ⟨⟨(k : Int), rfl, ?_⟩, (hXW.trans hX).trans hx2⟩
        rw [decide_eq_true hm, decide_eq_true (by omega)]
      · have hs := hstep.out he
        have ed : decide (a = y) = false := decide_eq_false he
        rw [ed]
        clear he
        go_wp2
        go_roundw
        case rel => exact ⟨k + 1, by omega, by go_num, hs, hX.trans hx2⟩
        case measure => simp [intOf]; omega
    · have hm : ¬ a ∈ l := by
        intro hm
        obtain ⟨j, hj, e⟩ := List.getElem_of_mem hm
        exact hn j (by omega) hj e.symm
      have hM := Lib.hid hm
      clear hm
      go_wp2
      go_ret
      refine ⟨⟨-1, rfl, ?_⟩, hXW.trans hX⟩
      rw [decide_eq_false hM.out]
      rfl
theorem containsO_c (v : Value) (l : List Outl) (a : Outl) (base : Nat) (w : World) (h : w.ownsRow base 68 4 v l.length (ovs l)) :
    Calls Tryz.prog 30 #[v, outV a] w fun e w' => e = .returned (.bool (decide (a ∈ l))) ∧ Ext w w' := by
  have hi := indexO_c v l a base (w.alloc (.cells #[.int .i64 a.1, .int .i64 a.2.1, .int .i64 a.2.2.1, .int .i64 a.2.2.2] 68)) (ownsRow_ext h (Ext.alloc _ _))
  simp only [outV] at hi
  go_enter Tryz.func30, Tryz.ntmps30
  simp only [outV]
  go_wp2_with (go_at_call 56; refine hi.mono ?_; rintro e w' ⟨⟨k, rfl, hk⟩, hx⟩)
  go_ret
  exact ⟨by rw [← hk]; rfl, (Ext.alloc _ _).trans hx⟩
end Go.Proofs.YtkdigfgodjjiaaaGreat
