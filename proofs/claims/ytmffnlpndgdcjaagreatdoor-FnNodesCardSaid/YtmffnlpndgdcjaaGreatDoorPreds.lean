/- Contracts of the program's starts and predecessors of segments, for a valid machine and a node that was found. -/
import Derived.Test.YtmffnlpndgdcjaaGreatDoorSound
import Derived.Test.YtmffnlpndgdcjaaGreatDoorPred
import Derived.Test.YtmffnlpndgdcjaaGreatDoorSeg
import Derived.Test.YtmffnlpndgdcjaaGreatDoorValid
import Derived.Test.YtmffnlpndgdcjaaGreatDoorRead
namespace Go.Proofs.YtmffnlpndgdcjaaGreatDoor
open Go Go.RowKit Go.Proofs
set_option maxHeartbeats 400000
/-- The head of a node stands on a known cell. -/
def HeadOk (x : List Int) : Prop := ∀ i : Nat, (i : Int) = x.getD 0 0 → i + 2 < x.length → x.getD (i + 2) 0 ≠ -1
theorem head_segNode {x : List Int} {h p a : Int} (hl : 3 ≤ x.length) (ha : a ≠ -1) : HeadOk (segNode x h p a) := by
  intro i hi hlt
  rw [getD_segNode_zero _ _ _ _ hl] at hi
  simp only [segNode_length] at hlt
  rw [segNode_in (by omega) (by omega), if_pos hi]
  exact ha
theorem before_head {x y : List Int} {p a : Int} {r : RuleD} (hl : 3 ≤ x.length) (ha : 0 ≤ a) (h : before x p a r = some y) : HeadOk y := by
  unfold before at h
  split at h
  · cases h
  · rename_i g
    split at h
    · rename_i g2
      split at h
      · injection h with h
        subst h
        intro i hi hlt
        rw [getD_segNode_zero _ _ _ _ hl] at hi
        simp only [segNode_length] at hlt
        omega
      · cases h
    · split at h
      · injection h with h
        subst h
        exact head_segNode hl (by omega)
      · cases h
theorem predsTo_head {m : MachD} (hm : MOk m) {x : List Int} (hl : 3 ≤ x.length) (k : Nat) (hk : k ≤ m.rules.length) : ∀ y ∈ predsTo m x k, HeadOk y := by
  induction k with
  | zero => intro y hy; simp [predsTo] at hy
  | succ k ih =>
    have ih := ih (by omega)
    by_cases he : m.rules[k] = noR
    · rw [predsTo_no (by omega) he]; exact ih
    · rw [predsTo_yes (by omega) he]
      unfold addNew
      split
      · rename_i y hb
        have q := hm.quo (k := k) (by omega) (by omega)
        have hy := before_head hl q.2.1 hb
        split
        · exact ih
        · intro z hz
          rcases List.mem_append.1 hz with c | c
          · exact ih z c
          · simp at c; subst c; exact hy
      · exact ih
theorem starts_head {m : MachD} (hm : MOk m) {n : Nat} (n1 : 1 ≤ n) : ∀ x ∈ startsIn m n, HeadOk x := by
  intro x hx
  simp only [startsIn, startsOf, partsOf, List.mem_map] at hx
  obtain ⟨p, ⟨z, hz, rfl⟩, rfl⟩ := hx
  obtain ⟨j, hj, rfl⟩ := List.getElem_of_mem hz
  have hb := freeTo_get m.rules m.rules.length j hj
  generalize (freeTo m.rules m.rules.length)[j] = z at *
  have q := hm.quo hb.1 hb.2
  have hlen : (List.replicate (n + 2) (-1 : Int)).length = n + 2 := by simp
  refine head_segNode (by omega) ?_
  simp only
  omega
theorem iterS_head {m : MachD} (hm : MOk m) {n : Nat} (n1 : 1 ≤ n) (k : Nat) (hc : ∀ j < k, j < (iterS m n j).1.length) : ∀ x ∈ (iterS m n k).1, HeadOk x := by
  induction k with
  | zero => exact addAll_all (fun y hy => by simp at hy) (starts_head hm n1)
  | succ k ih =>
    have ih' := ih fun j hj => hc j (by omega)
    have hk := hc k (by omega)
    have ok := iterS_ok hm n1 k fun j hj => hc j (by omega)
    refine addAll_all ih' (predsTo_head hm ?_ _ (Nat.le_refl _))
    rw [List.getD_eq_getElem?_getD, List.getElem?_eq_getElem hk]
    have := (ok _ (List.getElem_mem hk)).len
    simp only [Option.getD_some]
    omega
theorem SegmentStarts_c (v : Value) (m : MachD) (n : Nat) (w : World) (h : Mach w v m) (hm : machOk m = true) (n1 : 1 ≤ n) (n2 : n ≤ 9) :
    Calls Tryz.prog 9 #[v, .int .i64 n] w fun e w' => ∃ u, e = .returned (.tuple #[u, .int .i64 0]) ∧ OwnIntRows w.heap.size w' u (startsIn m n) ∧ Ext w w' := by
  have hk := MOk.of hm
  obtain ⟨rv, rfl, hr⟩ := h
  obtain ⟨Ar, cr, rfl, h3, h3'⟩ := hr.form
  obtain ⟨W, hW⟩ : ∃ W, W = w.alloc (.cells #[.int .i64 m.sy, .int .i64 m.st, .slice Ar m.rules.length cr] 26) := ⟨_, rfl⟩
  have hX : Ext w W := by rw [hW]; exact Ext.alloc _ _
  have bM : Blk W w.heap.size 26 #[.int .i64 m.sy, .int .i64 m.st, .slice Ar m.rules.length cr] := by rw [hW]; exact Blk.new _ _ _ _ rfl
  have c0 := bM.cell 0
  have c1 := bM.cell 1
  have c2 := bM.cell 2
  simp only [List.getElem?_toArray, List.getElem?_cons_zero, List.getElem?_cons_succ] at c0 c1 c2
  go_enter Tryz.func9, Tryz.ntmps9
  go_wp2_with fail
  rw [← hW]
  clear hW
  refine (ValidMachine_c _ m W ⟨_, rfl, hr.ext hX⟩).mono ?_
  rintro e w1 ⟨rfl, hx1⟩
  rw [hm]
  go_wp2_with fail
  refine (sizeOk_c _ _).mono ?_
  rintro e w' ⟨rfl, rfl⟩
  have hs : inB (n : Int) 1 9 = true := by simp [inB]; omega
  rw [hs]
  clear c0 c1 c2
  have c0 := (bM.ext hx1).cell 0
  have c1 := (bM.ext hx1).cell 1
  have c2 := (bM.ext hx1).cell 2
  simp only [List.getElem?_toArray, List.getElem?_cons_zero, List.getElem?_cons_succ] at c0 c1 c2
  go_wp2_with fail
  refine (segmentStarts_c _ m n _ ⟨_, rfl, (hr.ext hX).ext hx1⟩ hk.len2 hk.sy1 hk.sy2 n1 n2).mono ?_
  rintro e w2 ⟨u, rfl, ho, hx2⟩
  go_wp2
  go_ret2
  have hz : w.heap.size ≤ w1.heap.size := (hX.trans hx1).size
  obtain ⟨vs, o1, o2, o3⟩ := ho
  exact ⟨_, rfl, ⟨vs, ownsRow_base o1 hz, fun i hi => by obtain ⟨x, e, hx⟩ := o2 i hi; exact ⟨x, e, ownsRow_base hx hz⟩, o3⟩, (hX.trans hx1).trans hx2⟩
theorem within_yes {n lo hi : Int} (h : inB n lo hi = true) (w : World) : Calls Tryz.prog 35 #[.int .i64 n, .int .i64 lo, .int .i64 hi] w fun e w' => e = .returned (.bool true) ∧ w = w' := by
  rw [← h]
  exact within_c n lo hi w
set_option maxRecDepth 20000 in
set_option maxHeartbeats 2000000 in
theorem validSegment_c (v xv : Value) (m : MachD) (x : List Int) (n : Nat) (w : World) (h : Mach w v m) (hx : Ints w xv x) (hm : MOk m) (n1 : 1 ≤ n) (n2 : n ≤ 9) (hn : NodeOk m.sy m.st n x) (hh : HeadOk x) :
    Calls Tryz.prog 26 #[v, xv] w fun e w' => e = .returned (.bool true) ∧ Ext w w' := by
  obtain ⟨rv, rfl, hr⟩ := h
  obtain ⟨Ar, cr, rfl, h3, h3'⟩ := hr.form
  obtain ⟨A, c, rfl, h1, h2⟩ := hx.form
  have hlen := hn.len
  obtain ⟨b, off, rfl, hc⟩ := hx.at (k := 1) (by omega)
  obtain ⟨W, hW⟩ : ∃ W, W = w.alloc (.cells #[.int .i64 m.sy, .int .i64 m.st, .slice Ar m.rules.length cr] 26) := ⟨_, rfl⟩
  have hX : Ext w W := by rw [hW]; exact Ext.alloc _ _
  have bM : Blk W w.heap.size 26 #[.int .i64 m.sy, .int .i64 m.st, .slice Ar m.rules.length cr] := by rw [hW]; exact Blk.new _ _ _ _ rfl
  have m0 := bM.cell 0
  have m1 := bM.cell 1
  simp only [List.getElem?_toArray, List.getElem?_cons_zero, List.getElem?_cons_succ] at m0 m1
  have g : ∀ j, (hj : j < x.length) → x.getD j 0 = x[j] := fun j hj => by rw [List.getD_eq_getElem?_getD, List.getElem?_eq_getElem hj]; rfl
  have e0 := g 0 (by omega)
  have e1 := g 1 (by omega)
  have c0 := hX.cell (hc 0 (by omega))
  have c1 := hX.cell (hc 1 (by omega))
  have hd := (hx.drop 2 (by omega)).ext hX
  have hxW := hx.ext hX
  have hlo := hn.lo
  have hhi := hn.hi
  rw [e0] at hlo hhi
  have i1 : inB ((x.length : Int) - 2) 1 9 = true := by simp [inB]; omega
  have i2 : inB x[0] (-1) ((x.length : Int) - 2) = true := by simp [inB]; omega
  have i3 : ((x.drop 2).all fun z => inB z (-1) (m.sy - 1)) = true := by
    rw [List.all_eq_true]
    intro z hz
    obtain ⟨j, hj, rfl⟩ := List.getElem_of_mem hz
    have hj' : j + 2 < x.length := by simp at hj; omega
    have q := hn.cells (j + 2) (by omega) (by omega)
    rw [g (j + 2) hj'] at q
    have e : (x.drop 2)[j] = x[j + 2] := by simp [Nat.add_comm]
    rw [e]
    simp [inB]; omega
  have HOUT := Lib.hid hn.out
  have HINS := Lib.hid hn.ins
  have HH := Lib.hid hh
  have hsy1 := hm.sy1
  have hsy2 := hm.sy2
  have hst1 := hm.st1
  have hst2 := hm.st2
  have HG := Lib.hid g
  have HC := Lib.hid hc
  clear g hc hn hh hm e0 e1
  have hhi' : x[0] ≤ (x.length : Int) - 2 := by omega
  have l3 : 3 ≤ x.length := by omega
  have l11 : x.length ≤ 11 := by omega
  have HLEN := Lib.hid hlen
  clear hhi
  have HX0 : Hid (x.getD 0 0 = x[0]) := HG.out 0 (by omega)
  have HX1 : Hid (x.getD 1 0 = x[1]) := HG.out 1 (by omega)
  generalize x[0] = x0 at *
  generalize x[1] = x1 at *
  clear hlen
  simp only [Nat.add_zero] at c0
  have d0 := cellR c0
  have d1 := cellR c1
  have dm0 := cellR m0
  have hcc : ¬ c = 2 := by omega
  have hc2 : (2 : Int) ≤ (c : Int) := by omega
  have hl2 : (2 : Int) ≤ (x.length : Int) := by omega
  go_enter Tryz.func26, Tryz.ntmps26
  go_wp2_with fail
  rw [← hW]
  clear hW
  refine (sizeInt_c _ x W hxW).mono ?_
  rintro e w' ⟨rfl, rfl⟩
  go_wp2
  refine wp_region_ext (by kernel_rfl) (by kernel_rfl) ?_
  repeat (go_big_quiet_step ((first | (go_at_call 19; exact Calls.sameR (sizeOk_c _ _)) | (go_at_call 35; exact Calls.sameR (within_c _ _ _ _)) | (go_at_call 55; exact Calls.sameR (allWithin_c _ _ _ _ _ (hd.ext (below_regrown _ _ _)))))))
  refine wpQuiet_nil ?_
  intro w2 hx2
  have a0 := hx2.cell c0
  have a1 := hx2.cell c1
  have am := hx2.cell m1
  have HX2 := hX.trans hx2
  by_cases p1 : x0 = -1
  · have hx1 : x1 = -1 := by rw [← HX1.out]; exact HOUT.out (.inl (by rw [HX0.out]; omega))
    subst hx1
    subst p1
    clear c0 c1 m0 m1 d0 d1 dm0 i1 i2 i3
    go_wp2
    go_ret
    exact ⟨rfl, HX2⟩
  · by_cases p2 : x0 = (x.length : Int) - 2
    · have hx1 : x1 = -1 := by rw [← HX1.out]; exact HOUT.out (.inr (by rw [HX0.out, p2]; have := HLEN.out; omega))
      subst hx1
      have P1 : decide (x0 = -1) = false := by simp [p1]
      have P2 : decide (x0 = (x.length : Int) - 2) = true := by simp [p2]
      clear c0 c1 m0 m1 d0 d1 dm0 i1 i2 i3
      go_wp2
      go_ret
      exact ⟨rfl, HX2⟩
    · have P1 : decide (x0 = -1) = false := by simp [p1]
      have P2 : decide (x0 = (x.length : Int) - 2) = false := by simp [p2]
      obtain ⟨k, rfl⟩ : ∃ k : Nat, x0 = (k : Int) := ⟨x0.toNat, by omega⟩
      have P4 : ((k : Int) == -1) = false := beq_eq_false_iff_ne.2 (by omega)
      have P5 : ((k : Int) == (x.length : Int) - 2) = false := beq_eq_false_iff_ne.2 (by omega)
      have P6 : (0 : Int) ≤ 2 + (k : Int) := by omega
      have P7 : (2 : Int) + (k : Int) < (x.length : Int) := by omega
      have hk : 2 + k < x.length := by omega
      have ck := (hX.trans hx2).cell (HC.out (2 + k) hk)
      have hne : x[2 + k] ≠ -1 := by
        rw [← HG.out (2 + k) hk, Nat.add_comm]
        exact HH.out k (by rw [HX0.out]) (by omega)
      have hi := HINS.out (by rw [HX0.out]; have := HLEN.out; omega)
      rw [HX1.out] at hi
      have i4 : inB x1 0 (m.st - 1) = true := by simp [inB]; omega
      generalize x[2 + k] = xk at *
      have P3 : (xk != -1) = true := by simp [hne]
      have q0 := cellR a0
      have q1 := cellR a1
      have qm := cellR am
      have qk := cellR ck
      clear c0 c1 m0 m1 d0 d1 dm0 i1 i2 i3 hne
      go_wp2
      refine wp_region_ext (by kernel_rfl) (by kernel_rfl) ?_
      repeat (go_big_quiet_step ((go_at_call 35; exact Calls.sameR (within_yes i4 _))))
      refine wpQuiet_nil ?_
      intro w3 hx3
      go_wp2
      go_ret
      exact ⟨rfl, HX2.trans hx3⟩
set_option maxRecDepth 20000 in
theorem SegmentPredecessors_c (v xv : Value) (m : MachD) (x : List Int) (n : Nat) (w : World) (h : Mach w v m) (hx : Ints w xv x) (hm : machOk m = true) (n1 : 1 ≤ n) (n2 : n ≤ 9) (hn : NodeOk m.sy m.st n x) (hh : HeadOk x) :
    Calls Tryz.prog 11 #[v, xv] w fun e w' => ∃ u, e = .returned (.tuple #[u, .int .i64 0]) ∧ IntRows w' u (predsTo m x m.rules.length) ∧ Ext w w' := by
  have hk := MOk.of hm
  obtain ⟨rv, rfl, hr⟩ := h
  obtain ⟨Ar, cr, rfl, h3, h3'⟩ := hr.form
  obtain ⟨A, c, rfl, h1, h2⟩ := hx.form
  obtain ⟨W, hW⟩ : ∃ W, W = w.alloc (.cells #[.int .i64 m.sy, .int .i64 m.st, .slice Ar m.rules.length cr] 26) := ⟨_, rfl⟩
  have hX : Ext w W := by rw [hW]; exact Ext.alloc _ _
  have bM : Blk W w.heap.size 26 #[.int .i64 m.sy, .int .i64 m.st, .slice Ar m.rules.length cr] := by rw [hW]; exact Blk.new _ _ _ _ rfl
  have c0 := bM.cell 0
  have c1 := bM.cell 1
  have c2 := bM.cell 2
  simp only [List.getElem?_toArray, List.getElem?_cons_zero, List.getElem?_cons_succ] at c0 c1 c2
  go_enter Tryz.func11, Tryz.ntmps11
  go_wp2_with fail
  rw [← hW]
  clear hW
  refine (ValidMachine_c _ m W ⟨_, rfl, hr.ext hX⟩).mono ?_
  rintro e w1 ⟨rfl, hx1⟩
  rw [hm]
  clear c0 c1 c2
  have b1 := bM.ext hx1
  have c0 := b1.cell 0
  have c1 := b1.cell 1
  have c2 := b1.cell 2
  simp only [List.getElem?_toArray, List.getElem?_cons_zero, List.getElem?_cons_succ] at c0 c1 c2
  go_wp2_with fail
  refine (validSegment_c _ _ m x n w1 ⟨_, rfl, (hr.ext hX).ext hx1⟩ ((hx.ext hX).ext hx1) hk n1 n2 hn hh).mono ?_
  rintro e w2 ⟨rfl, hx2⟩
  clear c0 c1 c2
  have b2 := b1.ext hx2
  have c0 := b2.cell 0
  have c1 := b2.cell 1
  have c2 := b2.cell 2
  simp only [List.getElem?_toArray, List.getElem?_cons_zero, List.getElem?_cons_succ] at c0 c1 c2
  have hX2 := (hX.trans hx1).trans hx2
  have hlen := Lib.hid hn.len
  go_wp2_with fail
  refine (segmentPredecessors_c _ _ m x w2 ⟨_, rfl, hr.ext hX2⟩ (hx.ext hX2) hk.len2 hk.sy1 hk.sy2 hk.mv (by have := hlen.out; omega) (by have := hlen.out; omega) hn.lo (by have := hlen.out; have := hn.hi; omega)).mono ?_
  rintro e w3 ⟨u, rfl, ho, hx3⟩
  go_wp2
  go_ret2
  exact ⟨_, rfl, ho.rows, hX2.trans hx3⟩
end Go.Proofs.YtmffnlpndgdcjaaGreatDoor
