/- The tapes that a configuration of the machine with one tape stands for, in plain words. No program stands here.
Contracts of the program's test of a machine with several tapes. No condition.
Contract of the program's test of a machine with several tapes. No condition. -/
import Derived.Test.YtgeckhjkahnonaaGreatDoorO13
import Derived.Test.YtgeckhjkahnonaaGreatDoorO07
import Derived.Test.YtgeckhjkahnonaaGreatDoorO03
import Derived.Test.YtgeckhjkahnonaaGreatDoorO04
section
set_option linter.unusedSimpArgs false
set_option linter.unusedVariables false
namespace Go.Proofs.YtgeckhjkahnonaaGreatDoor
open Go Go.RowKit Go.Proofs
/-- The indices below n of one tape's cells. -/
def ixT (T f n : Nat) : List Nat := (List.range n).filter fun i => decide (i % T = f)
theorem ixT_zero (T f : Nat) : ixT T f 0 = [] := rfl
theorem ixT_hit {T f n : Nat} (h : n % T = f) : ixT T f (n + 1) = ixT T f n ++ [n] := by
  unfold ixT
  rw [List.range_succ, List.filter_append]
  simp [h]
theorem ixT_miss {T f n : Nat} (h : n % T ≠ f) : ixT T f (n + 1) = ixT T f n := by
  unfold ixT
  rw [List.range_succ, List.filter_append]
  simp [h]
theorem ixT_first {T f n : Nat} (hT : T = 2 ∨ T = 3) (h : n ≤ f) (hf : f < T) : ixT T f n = [] := by
  induction n with
  | zero => rfl
  | succ n ih =>
    rw [ixT_miss (by rcases hT with rfl | rfl <;> omega), ih (by omega)]
theorem ixT_step {T f k : Nat} (hT : T = 2 ∨ T = 3) (hk : k % T = f) : ∀ j, j < T → ixT T f (k + 1 + j) = ixT T f k ++ [k]
  | 0, _ => ixT_hit hk
  | j + 1, hj => by
    rw [← Nat.add_assoc, ixT_miss (by rcases hT with rfl | rfl <;> omega)]
    exact ixT_step hT hk j (by omega)
theorem ixT_next {T f k n : Nat} (hT : T = 2 ∨ T = 3) (hk : k % T = f) (h1 : k < n) (h2 : n ≤ k + T) : ixT T f n = ixT T f k ++ [k] := by
  have := ixT_step hT hk (n - k - 1) (by omega)
  rwa [show k + 1 + (n - k - 1) = n by omega] at this
/-- The cells of one tape. -/
def lineT (T f : Nat) (xs : List Int) (n : Nat) : List Int := (ixT T f n).map fun i => xs.getD i 0
def markB (sy v : Int) : Bool := decide (sy ≤ v)
/-- The tape of a line, in which one cell is marked. -/
def tapeDec (sy : Int) (line : List Int) : Option TapeD :=
  match line.findIdx? (markB sy) with
  | none => none
  | some h => if (line.drop (h + 1)).any (markB sy) then none else some ⟨trim (line.take h).reverse, trim ((line.getD h 0 - sy) :: line.drop (h + 1))⟩
def cellsC (c : ConfD) : List Int := c.l.reverse ++ c.r
def frstC (T t0 j : Int) (head : Nat) : Nat := ((j - t0 + head) % T).toNat
def lineC (m : MultiD) (c : ConfD) (t0 j : Int) : List Int := lineT m.tp.toNat (frstC m.tp t0 j c.l.length) (cellsC c) (cellsC c).length
def decTapes (m : MultiD) (c : ConfD) (t0 : Int) : Nat → Option (List TapeD)
  | 0 => some []
  | j + 1 => match decTapes m c t0 j, tapeDec m.sy (lineC m c t0 (j : Int)) with
    | some l, some t => some (l ++ [t])
    | _, _ => none
theorem frstC_lt {T t0 j : Int} (hT : 2 ≤ T) (head : Nat) : frstC T t0 j head < T.toNat := by
  unfold frstC
  have h1 := Int.emod_nonneg (j - t0 + head) (show T ≠ 0 by omega)
  have h2 := Int.emod_lt_of_pos (j - t0 + head) (show 0 < T by omega)
  omega
end Go.Proofs.YtgeckhjkahnonaaGreatDoor
end
section
set_option linter.unusedVariables false
set_option linter.unusedSimpArgs false
namespace Go.Proofs.YtgeckhjkahnonaaGreatDoor
open Go Go.RowKit Go.Proofs
set_option maxHeartbeats 400000
theorem compareMultiRules_c (u v : Value) (a b : MRuleD) (w : World) (ha : MRul w u a) (hb : MRul w v b) :
    Calls Tryz.prog 33 #[u, v] w fun e w' => e = .returned (.int .i64 (cmpM a b)) ∧ Ext w w' := by
  obtain ⟨ar, aw, am, rfl, ha1, _, _⟩ := ha
  obtain ⟨br, bw, bm, rfl, hb1, _, _⟩ := hb
  obtain ⟨A1, k1, rfl, _, _⟩ := ha1.form
  obtain ⟨B1, j1, rfl, _, _⟩ := hb1.form
  obtain ⟨W, hW⟩ : ∃ W, W = (w.alloc (.cells #[.int .i64 a.st, .slice A1 a.rd.length k1, aw, am, .int .i64 a.nx] 43)).alloc (.cells #[.int .i64 b.st, .slice B1 b.rd.length j1, bw, bm, .int .i64 b.nx] 43) := ⟨_, rfl⟩
  have hX : Ext w W := by rw [hW]; exact (Ext.alloc _ _).trans (Ext.alloc _ _)
  have hC := slicesCompare_c W _ _ a.rd b.rd (ha1.ext hX) (hb1.ext hX)
  obtain ⟨k, hk⟩ : ∃ k, cmpM a b = k := ⟨_, rfl⟩
  rw [hk]
  have HK := Lib.hid hk
  clear hk
  by_cases he : a.st = b.st
  · have H : (a.st != b.st) = false := by simp [he]
    have HE : Hid (k = cmpL a.rd b.rd) := by unfold Hid; rw [← HK.out, cmpM, if_pos he]
    clear he
    go_enter Tryz.func33, Tryz.ntmps33
    go_wp2_with fail
    try rw [← hW]
    clear hW
    refine hC.mono ?_
    rintro e w' ⟨rfl, rfl⟩
    go_wp2
    go_ret
    exact ⟨by rw [HE.out]; rfl, hX⟩
  · have H : (a.st != b.st) = true := by simp [he]
    by_cases hl : a.st < b.st
    · have HE : Hid (k = -1) := by unfold Hid; rw [← HK.out, cmpM, if_neg he, if_pos hl]
      clear he
      go_enter Tryz.func33, Tryz.ntmps33
      go_wp2
      go_ret
      exact ⟨by rw [HE.out]; rfl, (Ext.alloc _ _).trans (Ext.alloc _ _)⟩
    · have HE : Hid (k = 1) := by unfold Hid; rw [← HK.out, cmpM, if_neg he, if_neg hl]
      clear he
      go_enter Tryz.func33, Tryz.ntmps33
      go_wp2
      go_ret
      exact ⟨by rw [HE.out]; rfl, (Ext.alloc _ _).trans (Ext.alloc _ _)⟩
set_option maxRecDepth 20000 in
set_option maxHeartbeats 4000000 in
theorem validMultiRule_c (rv v : Value) (m : MultiD) (a : MRuleD) (w : World) (ha : MRul w v a) (t1 : 2 ≤ m.tp) (t2 : m.tp ≤ 3) (s1 : 2 ≤ m.sy) (s2 : m.sy ≤ 3) (q1 : 1 ≤ m.st) (q2 : m.st ≤ 16) :
    Calls Tryz.prog 32 #[.agg #[.int .i64 m.tp, .int .i64 m.sy, .int .i64 m.st, rv], v] w fun e w' => e = .returned (.bool (mruleOk m a)) ∧ Ext w w' := by
  obtain ⟨ar, aw, am, rfl, h1, h2, h3⟩ := ha
  obtain ⟨A1, k1, rfl, _, _⟩ := h1.form
  obtain ⟨A2, k2, rfl, _, _⟩ := h2.form
  obtain ⟨A3, k3, rfl, _, _⟩ := h3.form
  obtain ⟨W, hW⟩ : ∃ W, W = (w.alloc (.cells #[.int .i64 m.tp, .int .i64 m.sy, .int .i64 m.st, rv] 26)).alloc (.cells #[.int .i64 a.st, .slice A1 a.rd.length k1, .slice A2 a.wr.length k2, .slice A3 a.mv.length k3, .int .i64 a.nx] 43) := ⟨_, rfl⟩
  have hX : Ext w W := by rw [hW]; exact (Ext.alloc _ _).trans (Ext.alloc _ _)
  have bM : Blk W w.heap.size 26 #[.int .i64 m.tp, .int .i64 m.sy, .int .i64 m.st, rv] := by rw [hW]; exact (Blk.new _ _ _ _ rfl).alloc _
  have bR : Blk W (w.heap.size + 1) 43 #[.int .i64 a.st, .slice A1 a.rd.length k1, .slice A2 a.wr.length k2, .slice A3 a.mv.length k3, .int .i64 a.nx] := by rw [hW]; exact Blk.new _ _ _ _ (by simp)
  have m0 := bM.cell 0
  have m1 := bM.cell 1
  have m2 := bM.cell 2
  have r0 := bR.cell 0
  have r1 := bR.cell 1
  have r2 := bR.cell 2
  have r3 := bR.cell 3
  have r4 := bR.cell 4
  simp only [List.getElem?_toArray, List.getElem?_cons_zero, List.getElem?_cons_succ] at m0 m1 m2 r0 r1 r2 r3 r4
  have hw1 : IntKind.i64.wrap (m.st - 1) = m.st - 1 := IntWalk.i64_in _ (by omega)
  have hw2 : IntKind.i64.wrap (m.sy - 1) = m.sy - 1 := IntWalk.i64_in _ (by omega)
  have W1 := fun w => within_c a.st 0 (m.st - 1) w
  have W2 := fun w => within_c a.nx 0 (m.st - 1) w
  have hr1 := h1.ext hX
  have hr2 := h2.ext hX
  have hr3 := h3.ext hX
  have A1' := fun w (h : Ext W w) => allWithin_c _ a.rd 0 (m.sy - 1) w (hr1.ext h)
  have A2' := fun w (h : Ext W w) => allWithin_c _ a.wr 0 (m.sy - 1) w (hr2.ext h)
  have A3' := fun w (h : Ext W w) => allWithin_c _ a.mv (-1) 1 w (hr3.ext h)
  obtain ⟨b1, hb1⟩ : ∃ b, inB a.st 0 (m.st - 1) = b := ⟨_, rfl⟩
  obtain ⟨b2, hb2⟩ : ∃ b, inB a.nx 0 (m.st - 1) = b := ⟨_, rfl⟩
  obtain ⟨d1, hd1⟩ : ∃ b, decide ((a.rd.length : Int) = m.tp) = b := ⟨_, rfl⟩
  obtain ⟨d2, hd2⟩ : ∃ b, decide ((a.wr.length : Int) = m.tp) = b := ⟨_, rfl⟩
  obtain ⟨d3, hd3⟩ : ∃ b, decide ((a.mv.length : Int) = m.tp) = b := ⟨_, rfl⟩
  obtain ⟨f1, hf1⟩ : ∃ b, (a.rd.all fun z => inB z 0 (m.sy - 1)) = b := ⟨_, rfl⟩
  obtain ⟨f2, hf2⟩ : ∃ b, (a.wr.all fun z => inB z 0 (m.sy - 1)) = b := ⟨_, rfl⟩
  obtain ⟨f3, hf3⟩ : ∃ b, (a.mv.all fun z => inB z (-1) 1) = b := ⟨_, rfl⟩
  have HK : Hid (mruleOk m a = (b1 && b2 && d1 && d2 && d3 && f1 && f2 && f3)) := by
    unfold Hid mruleOk allIn
    rw [hb1, hb2, hd1, hd2, hd3, hf1, hf2, hf3]
  have n1 : ((a.rd.length : Int) != m.tp) = !d1 := by rw [← hd1]; rw [bne, Bool.beq_eq_decide_eq]
  have n2 : ((a.wr.length : Int) != m.tp) = !d2 := by rw [← hd2]; rw [bne, Bool.beq_eq_decide_eq]
  have n3 : ((a.mv.length : Int) != m.tp) = !d3 := by rw [← hd3]; rw [bne, Bool.beq_eq_decide_eq]
  rw [hb1] at W1
  rw [hb2] at W2
  rw [hf1] at A1'
  rw [hf2] at A2'
  rw [hf3] at A3'
  rw [HK.out]
  clear hb1 hb2 hd1 hd2 hd3 hf1 hf2 hf3 HK h1 h2 h3
  go_enter Tryz.func32, Tryz.ntmps32
  go_wp2_with fail
  try rw [← hW]
  clear hW
  refine (W1 W).mono ?_
  rintro e w' ⟨rfl, rfl⟩
  cases b1 with
  | false =>
    go_wp2
    go_ret
    exact ⟨by simp, hX⟩
  | true =>
    go_wp2_with fail
    refine (W2 W).mono ?_
    rintro e w' ⟨rfl, rfl⟩
    cases b2 with
    | false =>
      go_wp2
      go_ret
      exact ⟨by simp, hX⟩
    | true =>
      have e0 := cellR m0
      have e1 := cellR r1
      have e2 := cellR r2
      have e3 := cellR r3
      clear W1 W2
      cases d1 with
      | false =>
        simp only [Bool.not_false] at n1
        go_wp2_with fail
        refine wp_region_ext (by kernel_rfl) (by kernel_rfl) ?_
        repeat (go_big_quiet_step ((go_at_call 57; first | exact Calls.sameR (sizeInt_c _ _ _ (hr1.ext (below_regrown _ _ _))) | exact Calls.sameR (sizeInt_c _ _ _ (hr2.ext (below_regrown _ _ _))) | exact Calls.sameR (sizeInt_c _ _ _ (hr3.ext (below_regrown _ _ _))))))
        refine wpQuiet_nil ?_
        intro w2 hx2
        go_wp2
        go_ret
        exact ⟨by simp, hX.trans hx2⟩
      | true =>
        simp only [Bool.not_true] at n1
        cases d2 with
        | false =>
          simp only [Bool.not_false] at n2
          go_wp2_with fail
          refine wp_region_ext (by kernel_rfl) (by kernel_rfl) ?_
          repeat (go_big_quiet_step ((go_at_call 57; first | exact Calls.sameR (sizeInt_c _ _ _ (hr1.ext (below_regrown _ _ _))) | exact Calls.sameR (sizeInt_c _ _ _ (hr2.ext (below_regrown _ _ _))) | exact Calls.sameR (sizeInt_c _ _ _ (hr3.ext (below_regrown _ _ _))))))
          refine wpQuiet_nil ?_
          intro w2 hx2
          go_wp2
          go_ret
          exact ⟨by simp, hX.trans hx2⟩
        | true =>
          simp only [Bool.not_true] at n2
          cases d3 with
          | false =>
            simp only [Bool.not_false] at n3
            go_wp2_with fail
            refine wp_region_ext (by kernel_rfl) (by kernel_rfl) ?_
            repeat (go_big_quiet_step ((go_at_call 57; first | exact Calls.sameR (sizeInt_c _ _ _ (hr1.ext (below_regrown _ _ _))) | exact Calls.sameR (sizeInt_c _ _ _ (hr2.ext (below_regrown _ _ _))) | exact Calls.sameR (sizeInt_c _ _ _ (hr3.ext (below_regrown _ _ _))))))
            refine wpQuiet_nil ?_
            intro w2 hx2
            go_wp2
            go_ret
            exact ⟨by simp, hX.trans hx2⟩
          | true =>
            simp only [Bool.not_true] at n3
            go_wp2_with fail
            refine wp_region_ext (by kernel_rfl) (by kernel_rfl) ?_
            repeat (go_big_quiet_step ((go_at_call 57; first | exact Calls.sameR (sizeInt_c _ _ _ (hr1.ext (below_regrown _ _ _))) | exact Calls.sameR (sizeInt_c _ _ _ (hr2.ext (below_regrown _ _ _))) | exact Calls.sameR (sizeInt_c _ _ _ (hr3.ext (below_regrown _ _ _))))))
            refine wpQuiet_nil ?_
            intro w2 hx2
            have c0 := hx2.cell r1
            have c1 := hx2.cell r2
            have c2 := hx2.cell r3
            have c3 := hx2.cell m1
            have D1 := A1' w2 hx2
            have D2 := A2' w2 hx2
            have D3 := A3' w2 hx2
            clear A1' A2' A3' e0 e1 e2 e3 r0 r1 r2 r3 r4 m0 m1 m2
            cases f1 with
            | false =>
              go_wp2_with fail
              refine D1.mono ?_
              rintro e w' ⟨rfl, rfl⟩
              go_wp2
              go_ret
              exact ⟨by simp, hX.trans hx2⟩
            | true =>
              cases f2 with
              | false =>
                go_wp2_with fail
                refine D1.mono ?_
                rintro e w' ⟨rfl, rfl⟩
                go_wp2_with fail
                refine D2.mono ?_
                rintro e w' ⟨rfl, rfl⟩
                go_wp2
                go_ret
                exact ⟨by simp, hX.trans hx2⟩
              | true =>
                go_wp2_with fail
                refine D1.mono ?_
                rintro e w' ⟨rfl, rfl⟩
                go_wp2_with fail
                refine D2.mono ?_
                rintro e w' ⟨rfl, rfl⟩
                go_wp2_with fail
                refine D3.mono ?_
                rintro e w' ⟨rfl, rfl⟩
                go_wp2
                go_ret
                exact ⟨by simp, hX.trans hx2⟩
end Go.Proofs.YtgeckhjkahnonaaGreatDoor
end
section
set_option linter.unusedVariables false
set_option linter.unusedSimpArgs false
namespace Go.Proofs.YtgeckhjkahnonaaGreatDoor
open Go Go.RowKit Go.Proofs
set_option maxHeartbeats 400000
theorem multi_no {m : MultiD} {k : Nat} (hk : k < m.rules.length) (h : mstepOk m k = false) : multiOk m = false := by
  cases e : multiOk m with
  | false => rfl
  | true =>
    have := (multi_all e).2.2.2.2 k hk
    rw [h] at this
    cases this
theorem mstep_first (m : MultiD) (h : mruleOk m (m.rules.getD 0 mr0) = true) : mstepOk m 0 = true := by unfold mstepOk; rw [h]; rfl
set_option maxRecDepth 20000 in
set_option maxHeartbeats 4000000 in
theorem ValidMulti_c (v : Value) (m : MultiD) (w : World) (h : Mult w v m) :
    Calls Tryz.prog 15 #[v] w fun e w' => e = .returned (.bool (multiOk m)) ∧ Ext w w' := by
  obtain ⟨rv, rfl, hr⟩ := h
  obtain ⟨A, c, rfl, hc1, hc2⟩ := hr.form
  obtain ⟨W, hW⟩ : ∃ W, W = w.alloc (.cells #[.int .i64 m.tp, .int .i64 m.sy, .int .i64 m.st, .slice A m.rules.length c] 26) := ⟨_, rfl⟩
  have hX : Ext w W := by rw [hW]; exact Ext.alloc _ _
  have bM : Blk W w.heap.size 26 #[.int .i64 m.tp, .int .i64 m.sy, .int .i64 m.st, .slice A m.rules.length c] := by rw [hW]; exact Blk.new _ _ _ _ rfl
  have W1 := fun w => within_c m.tp 2 3 w
  have W2 := fun w => within_c m.sy 2 3 w
  have W3 := fun w => within_c m.st 1 16 w
  have m0 := bM.cell 0
  have m1 := bM.cell 1
  have m2 := bM.cell 2
  have m3 := bM.cell 3
  simp only [List.getElem?_toArray, List.getElem?_cons_zero, List.getElem?_cons_succ] at m0 m1 m2 m3
  obtain ⟨K, hK⟩ : ∃ K, multiOk m = K := ⟨_, rfl⟩
  rw [hK]
  have HK := Lib.hid hK
  clear hK
  go_enter Tryz.func15, Tryz.ntmps15
  go_wp2_with fail
  try rw [← hW]
  clear hW
  refine (W1 W).mono ?_
  rintro e w' ⟨rfl, rfl⟩
  cases h1 : inB m.tp 2 3 with
  | false =>
    have HE : Hid (K = false) := by unfold Hid; rw [← HK.out, multiOk, h1]; simp
    clear h1
    go_wp2
    go_ret
    exact ⟨by rw [HE.out]; rfl, hX⟩
  | true =>
    have H1 := Lib.hid h1
    clear h1
    go_wp2_with fail
    refine (W2 W).mono ?_
    rintro e w' ⟨rfl, rfl⟩
    cases h2 : inB m.sy 2 3 with
    | false =>
      have HE : Hid (K = false) := by unfold Hid; rw [← HK.out, multiOk, h2]; simp
      clear h2
      go_wp2
      go_ret
      exact ⟨by rw [HE.out]; rfl, hX⟩
    | true =>
      have H2 := Lib.hid h2
      clear h2
      go_wp2_with fail
      refine (W3 W).mono ?_
      rintro e w' ⟨rfl, rfl⟩
      cases h3 : inB m.st 1 16 with
      | false =>
        have HE : Hid (K = false) := by unfold Hid; rw [← HK.out, multiOk, h3]; simp
        clear h3
        go_wp2
        go_ret
        exact ⟨by rw [HE.out]; rfl, hX⟩
      | true =>
        have H3 := Lib.hid h3
        clear h3
        by_cases h4 : m.rules.length ≤ 60
        · have i4 : ¬ (60 : Int) < (m.rules.length : Int) := by omega
          obtain ⟨t1, t2⟩ := inB_iff.1 H1.out
          obtain ⟨s1, s2⟩ := inB_iff.1 H2.out
          obtain ⟨q1, q2⟩ := inB_iff.1 H3.out
          clear W1 W2 W3
          go_wp2
          go_loopw [30] (fun i wr => ∃ k : Nat, k ≤ m.rules.length ∧ i = .int .i64 (k : Int) ∧ Ext W wr ∧ (∀ j, j < k → mstepOk m j = true)) (fun i _ => m.rules.length - (intOf i).toNat)
          case atStart => exact ⟨0, Nat.zero_le _, rfl, Ext.refl _, fun j hj => by omega⟩
          case round =>
            obtain ⟨k, hk, rfl, hx, hok⟩ := hrel
            have HOK := Lib.hid hok
            clear hok
            by_cases hlt : k < m.rules.length
            · have hrr := hr.ext (hX.trans hx)
              obtain ⟨b, off, vr, vw, vm, rfl, c0, c1, c2, c3, c4, j1, j2, j3⟩ := hrr.at hlt
              have hgd : m.rules.getD k mr0 = m.rules[k] := by rw [List.getD_eq_getElem?_getD, List.getElem?_eq_getElem hlt]; rfl
              obtain ⟨r, hrk⟩ : ∃ r, m.rules[k] = r := ⟨_, rfl⟩
              rw [hrk] at c0 c4 j1 j2 j3 hgd
              obtain ⟨A1, k1, rfl, _, _⟩ := j1.form
              obtain ⟨A2, k2, rfl, _, _⟩ := j2.form
              obtain ⟨A3, k3, rfl, _, _⟩ := j3.form
              obtain ⟨V, hV⟩ : ∃ V, wr.alloc (.cells #[.int .i64 r.st, .slice A1 r.rd.length k1, .slice A2 r.wr.length k2, .slice A3 r.mv.length k3, .int .i64 r.nx] 43) = V := ⟨_, rfl⟩
              have hXV : Ext wr V := by rw [← hV]; exact Ext.alloc _ _
              have bV : Blk V wr.heap.size 43 #[.int .i64 r.st, .slice A1 r.rd.length k1, .slice A2 r.wr.length k2, .slice A3 r.mv.length k3, .int .i64 r.nx] := by rw [← hV]; exact Blk.new _ _ _ _ rfl
              obtain ⟨g, hg⟩ : ∃ g, wr.heap.size = g := ⟨_, rfl⟩
              rw [hg] at bV
              have hM : MRul V (.agg #[.int .i64 r.st, .slice A1 r.rd.length k1, .slice A2 r.wr.length k2, .slice A3 r.mv.length k3, .int .i64 r.nx]) r := ⟨_, _, _, rfl, j1.ext hXV, j2.ext hXV, j3.ext hXV⟩
              have VR := fun d os => validMultiRule_c (.slice (some ⟨b, off, none⟩) m.rules.length c) _ m r (Sort.grow (redrawn V d) os) (hM.ext (below_regrown V d os)) t1 t2 s1 s2 q1 q2
              have bMV := (bM.ext hx).ext hXV
              have d0 := cellR (bMV.cell 0)
              have d1 := cellR (bMV.cell 1)
              have d2 := cellR (bMV.cell 2)
              have d3 := cellR (bMV.cell 3)
              have f0 := cellR (bV.cell 0)
              have f1 := cellR (bV.cell 1)
              have f2 := cellR (bV.cell 2)
              have f3 := cellR (bV.cell 3)
              have f4 := cellR (bV.cell 4)
              try simp only [List.getElem?_toArray, List.getElem?_cons_zero, List.getElem?_cons_succ] at d0 d1 d2 d3 f0 f1 f2 f3 f4
              cases hv : mruleOk m r with
              | false =>
                have HE : Hid (K = false) := by unfold Hid; rw [← HK.out]; exact multi_no hlt (by rw [mstepOk, hgd, hv]; rfl)
                rw [hv] at VR
                clear hv hrk
                go_wp2_with fail
                try rw [hV]
                clear hV
                refine wp_region_ext (by kernel_rfl) (by kernel_rfl) ?_
                repeat (go_big_quiet_step ((go_at_call 32; exact Calls.extR (VR _ _))))
                refine wpQuiet_nil ?_
                intro w2 hx2
                go_wp2
                go_ret
                exact ⟨by rw [HE.out]; rfl, ((hX.trans hx).trans hXV).trans hx2⟩
              | true =>
                rw [hv] at VR
                by_cases hk0 : k = 0
                · subst hk0
                  have HS : Hid (∀ j, j < 0 + 1 → mstepOk m j = true) := Lib.hid (fun j hj => by
                    have e : j = 0 := by omega
                    subst e
                    exact mstep_first m (by rw [hgd]; exact hv))
                  rw [show ((0 : Nat) : Int) = 0 from rfl]
                  simp only [Nat.zero_mul, Nat.add_zero] at c0 c1 c2 c3 c4
                  clear hv hrk
                  go_wp2_with fail
                  try rw [hV]
                  clear hV
                  refine wp_region_ext (by kernel_rfl) (by kernel_rfl) ?_
                  repeat (go_big_quiet_step ((go_at_call 32; exact Calls.extR (VR _ _))))
                  refine wpQuiet_nil ?_
                  intro w2 hx2
                  go_wp2
                  go_roundw
                  case rel => exact ⟨0 + 1, by omega, by go_num, (hx.trans hXV).trans hx2, HS.out⟩
                  case measure => simp [intOf]; omega
                · have hk1 : k - 1 < m.rules.length := by omega
                  obtain ⟨b', off', ur, uw, um, e', p0, p1, p2, p3, p4, l1, l2, l3⟩ := hrr.at hk1
                  cases e'
                  have hgd' : m.rules.getD (k - 1) mr0 = m.rules[k - 1] := by rw [List.getD_eq_getElem?_getD, List.getElem?_eq_getElem hk1]; rfl
                  obtain ⟨s, hsk⟩ : ∃ s, m.rules[k - 1] = s := ⟨_, rfl⟩
                  rw [hsk] at p0 p4 l1 l2 l3 hgd'
                  have hN : MRul V (.agg #[.int .i64 s.st, ur, uw, um, .int .i64 s.nx]) s := ⟨_, _, _, rfl, l1.ext hXV, l2.ext hXV, l3.ext hXV⟩
                  have CM := fun d os => compareMultiRules_c _ _ s r (Sort.grow (redrawn V d) os) (hN.ext (below_regrown V d os)) (hM.ext (below_regrown V d os))
                  obtain ⟨B1, l1', rfl, _, _⟩ := l1.form
                  obtain ⟨B2, l2', rfl, _, _⟩ := l2.form
                  obtain ⟨B3, l3', rfl, _, _⟩ := l3.form
                  have p0 := cellR (hXV.cell p0)
                  have p1 := cellR (hXV.cell p1)
                  have p2 := cellR (hXV.cell p2)
                  have p3 := cellR (hXV.cell p3)
                  have p4 := cellR (hXV.cell p4)
                  have i0 : 0 < k := by omega
                  have i00 : decide (0 < k) = true := decide_eq_true i0
                  have i1 : (0 : Int) < (k : Int) := by omega
                  have iw : IntKind.i64.wrap ((k : Int) - 1) = (k : Int) - 1 := IntWalk.i64_in _ (by omega)
                  have i2 : (0 : Int) ≤ (k : Int) - 1 := by omega
                  have i3 : (k : Int) - 1 < (m.rules.length : Int) := by omega
                  have i4' : ((k : Int) - 1).toNat = k - 1 := by omega
                  have hms : mstepOk m k = decide (cmpM s r < 0) := by unfold mstepOk; rw [hgd, hgd', hv, decide_eq_false hk0]; simp
                  have HMS := Lib.hid hms
                  obtain ⟨z, hz⟩ : ∃ z, cmpM s r = z := ⟨_, rfl⟩
                  rw [hz] at CM HMS
                  clear hv hrk hsk hz hgd hgd' hms l1 l2 l3 j1 j2 j3 hM hN
                  by_cases hz0 : z < 0
                  · have i5 : ¬ (0 : Int) ≤ z := by omega
                    have HS : Hid (∀ j, j < k + 1 → mstepOk m j = true) := Lib.hid (fun j hj => by
                      by_cases e : j = k
                      · rw [e, HMS.out]; exact decide_eq_true hz0
                      · exact HOK.out j (by omega))
                    go_wp2_with fail
                    try rw [hV]
                    clear hV
                    refine wp_region_ext (by kernel_rfl) (by kernel_rfl) ?_
                    repeat (go_big_quiet_step ((first | (go_at_call 32; exact Calls.extR (VR _ _)) | (go_at_call 33; exact Calls.extR (CM _ _)))))
                    refine wpQuiet_nil ?_
                    intro w2 hx2
                    go_wp2
                    go_roundw
                    case rel => exact ⟨k + 1, by omega, by go_num, (hx.trans hXV).trans hx2, HS.out⟩
                    case measure => simp [intOf]; omega
                  · have i5 : (0 : Int) ≤ z := by omega
                    have HE : Hid (K = false) := by unfold Hid; rw [← HK.out]; exact multi_no hlt (by rw [HMS.out]; exact decide_eq_false hz0)
                    go_wp2_with fail
                    try rw [hV]
                    clear hV
                    refine wp_region_ext (by kernel_rfl) (by kernel_rfl) ?_
                    repeat (go_big_quiet_step ((first | (go_at_call 32; exact Calls.extR (VR _ _)) | (go_at_call 33; exact Calls.extR (CM _ _)))))
                    refine wpQuiet_nil ?_
                    intro w2 hx2
                    go_wp2
                    go_ret
                    exact ⟨by rw [HE.out]; rfl, ((hX.trans hx).trans hXV).trans hx2⟩
            · have hke : k = m.rules.length := by omega
              have HE : Hid (K = true) := by
                unfold Hid
                rw [← HK.out]
                simp only [multiOk, H1.out, H2.out, H3.out, Bool.and_eq_true, decide_eq_true_eq, List.all_eq_true, List.mem_range]
                exact ⟨⟨⟨⟨trivial, trivial⟩, trivial⟩, h4⟩, fun j hj => HOK.out j (by omega)⟩
              go_wp2
              go_ret
              exact ⟨by rw [HE.out]; rfl, hX.trans hx⟩
        · have i4 : (60 : Int) < (m.rules.length : Int) := by omega
          have HE : Hid (K = false) := by unfold Hid; rw [← HK.out, multiOk, decide_eq_false h4]; simp
          go_wp2
          go_ret
          exact ⟨by rw [HE.out]; rfl, hX⟩
end Go.Proofs.YtgeckhjkahnonaaGreatDoor
end
