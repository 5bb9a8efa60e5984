/- Contract of the program's search for a proof by two automata.
Contract of the program's list of the partial configurations that lead to one.
Plain words on the texts of partial configurations: two with one text are one. No program stands here. -/
import Derived.Test.YtacpchapgklcgaaGreatDoorR24
import Derived.Test.YtacpchapgklcgaaGreatDoorR25
import Derived.Test.YtacpchapgklcgaaGreatDoorR06
import Derived.Test.YtacpchapgklcgaaGreatDoorR21
import Derived.Test.YtacpchapgklcgaaGreatDoorR16
import Derived.Deep.DeepCutAuto
section
set_option linter.unusedSimpArgs false
set_option linter.unusedVariables false
namespace Go.Proofs.YtacpchapgklcgaaGreatDoor
open Go Go.RowKit Go.Proofs
set_option maxHeartbeats 400000
def FuRes (w : World) (m : MachD) (e : Ending) (w' : World) : Prop :=
  Ext w w' ∧ ((∃ code : Int, (code = 3 ∨ code = 5) ∧ e = .returned (.tuple #[.agg #[.int .i64 0, .slice none 0 0, .slice none 0 0], .int .i64 code])) ∨
    ∃ (L R : DfaD) (u : Value), dfaOk L m.sy = true ∧ dfaOk R m.sy = true ∧ CloYes m L R ∧ e = .returned (.tuple #[.agg #[.int .i64 7, u, .slice none 0 0], .int .i64 0]) ∧ Ints w' u (autP L R).ns)
set_option maxRecDepth 20000 in
set_option maxHeartbeats 4000000 in
theorem FindAutomaton_c (w : World) (m : MachD) (mv : Value) (hr : Rules w mv m.rules) (hm : machOk m = true) (h2 : m.sy = 2) :
    Calls Tryz.prog 14 #[.agg #[.int .i64 m.sy, .int .i64 m.st, mv], .int .i64 40] w (FuRes w m) := by
  obtain ⟨Am, cm, rfl, _, _⟩ := id hr.form
  obtain ⟨W, hW⟩ : ∃ W, W = (w.alloc (.cells #[.int .i64 m.sy, .int .i64 m.st, .slice Am m.rules.length cm] 26)).alloc (.cells #[.int .i64 0, .slice none 0 0, .slice none 0 0] 36) := ⟨_, rfl⟩
  have hX : Ext w W := by rw [hW]; exact (Ext.alloc _ _).trans (Ext.alloc _ _)
  have bM : Blk W w.heap.size 26 #[.int .i64 m.sy, .int .i64 m.st, .slice Am m.rules.length cm] := by rw [hW]; exact (Blk.new _ _ _ _ rfl).alloc _
  have bP : Blk W (w.heap.size + 1) 36 #[.int .i64 0, .slice none 0 0, .slice none 0 0] := by rw [hW]; exact Blk.new _ _ _ _ (by simp)
  have hbud : budC m 40 = 0 := by simp [budC, hm, inB]
  have hbc := budgeted_c (.agg #[.int .i64 m.sy, .int .i64 m.st, .slice Am m.rules.length cm]) m 40 W ⟨_, rfl, hr.ext hX⟩
  rw [hbud] at hbc
  have H2 := Lib.hid h2
  clear h2
  have c0 := bM.cell 0
  have c1 := bM.cell 1
  have c2 := bM.cell 2
  simp only [List.getElem?_toArray, List.getElem?_cons_zero, List.getElem?_cons_succ] at c0 c1 c2
  rw [hW] at c0 c1 c2
  have HW := Lib.hid hW
  clear hW
  go_enter Tryz.func14, Tryz.ntmps14
  go_wp2_with fail
  rw [← HW.out]
  clear HW
  refine hbc.mono ?_
  rintro e w1 ⟨rfl, hx1⟩
  have hX1 := hX.trans hx1
  clear c0 c1 c2
  have bM1 := bM.ext hx1
  have bP1 := bP.ext hx1
  obtain ⟨h, hh⟩ : ∃ h, w1.heap.size = h := ⟨_, rfl⟩
  obtain ⟨V, hV⟩ : ∃ V, ((w1.alloc (.cells #[.int .i64 0, .slice none 0 0, .slice none 0 0] 36)).alloc (.cells #[.bool false] 4)).alloc (.cells #[.int .i64 40] 2) = V := ⟨_, rfl⟩
  have hXV : Ext w1 V := by rw [← hV]; exact ((Ext.alloc _ _).trans (Ext.alloc _ _)).trans (Ext.alloc _ _)
  have bV0 : Blk V h 36 #[.int .i64 0, .slice none 0 0, .slice none 0 0] := by rw [← hV]; exact ((Blk.new _ _ _ _ hh).ext (Ext.alloc _ _)).ext (Ext.alloc _ _)
  have bV1 : Blk V (h + 1) 4 #[.bool false] := by rw [← hV]; exact (Blk.new _ _ _ _ (by simp [hh])).ext (Ext.alloc _ _)
  have bV2 : Blk V (h + 2) 2 #[.int .i64 ((40 : Nat) : Int)] := by rw [← hV]; exact Blk.new _ _ _ _ (by simp [hh])
  have hgh : w.heap.size + 1 < h := by rw [← hh]; exact bP1.lt
  have hS : FaS w w.heap.size h m (.slice Am m.rules.length cm) 40 V := ⟨bM1.ext hXV, bV0, bV1, bV2, bP1.ext hXV, Nat.le_refl _, by omega, hX1.trans hXV⟩
  have hdp := dfaPairs_c #[.pointer (some ⟨h + 1 + 1, 0, none⟩), .pointer (some ⟨w.heap.size, 0, none⟩), .pointer (some ⟨h, 0, none⟩), .pointer (some ⟨h + 1, 0, none⟩)] (h + 3)
    (fun X => ∃ l, l ≤ 1000 ∧ FaS w w.heap.size h m (.slice Am m.rules.length cm) l X) (fun X => (∃ l, l ≤ 1000 ∧ FaS w w.heap.size h m (.slice Am m.rules.length cm) l X) ∨ FaF w w.heap.size h m X) V
    (by have := hS.cnt.lt; omega) ⟨40, by omega, hS⟩ (fun a b ⟨l, hl, k⟩ he => ⟨l, hl, k.ext' he⟩) (by
      rintro L R lv tv X ⟨l, hl, k⟩ hu ht hL hR
      refine (visit_c w w.heap.size h m _ l L R lv tv X k hr hm hl hu ht (by rw [H2.out]; exact hL) (by rw [H2.out]; exact hR)).mono ?_
      rintro e X' ⟨hk, ⟨l', rfl, rfl, k'⟩ | ⟨rfl, ⟨l', hl', k'⟩ | k'⟩⟩
      · exact ⟨hk, .inl ⟨rfl, l', by omega, k'⟩⟩
      · exact ⟨hk, .inr ⟨rfl, .inl ⟨l', by omega, k'⟩⟩⟩
      · exact ⟨hk, .inr ⟨rfl, .inr k'⟩⟩)
  have a0 := hS.mach.cell 0
  simp only [List.getElem?_toArray, List.getElem?_cons_zero, List.getElem?_cons_succ] at a0
  clear bM1 bP1 bV0 bV1 bV2
  rw [← H2.out] at hdp
  go_wp2_with fail
  refine hdp.mono ?_
  clear hdp a0 hV hh
  have hg : w.heap.size ≤ w.heap.size + 1 := by omega
  have hno : ∀ {X : World}, Blk X (w.heap.size + 1) 36 #[.int .i64 0, .slice none 0 0, .slice none 0 0] → Ext w X → Ext w (((X.setCell ⟨w.heap.size + 1, 0, none⟩ (.int .i64 0)).setCell ⟨w.heap.size + 1, 1, none⟩ (.slice none 0 0)).setCell ⟨w.heap.size + 1, 2, none⟩ (.slice none 0 0)) := fun hB hE =>
    (((hE.setCell (p := ⟨w.heap.size + 1, 0, none⟩) hg (.int .i64 0)).setCell (p := ⟨w.heap.size + 1, 1, none⟩) hg (.slice none 0 0)).setCell (p := ⟨w.heap.size + 1, 2, none⟩) hg (.slice none 0 0))
  rintro e w2 ⟨hk, ⟨rfl, l, hl, hS2⟩ | ⟨rfl, ⟨l, hl, hS2⟩ | ⟨hE2, hB2, L, R, u, hL, hR, hC, hP2, hF2, hI2⟩⟩⟩
  · have k0 := hS2.fnd.cell 0
    have g0 := hS2.res.cell 0
    have g1 := hS2.res.cell 1
    have g2 := hS2.res.cell 2
    have f := hS2.res.frozen
    have d := (((hS2.res.set_ 0 (.int .i64 0)).set_ 1 (.slice none 0 0)).set_ 2 (.slice none 0 0)).cell
    simp only [List.getElem?_toArray, List.getElem?_cons_zero, List.getElem?_cons_succ] at k0 g0 g1 g2
    have HXF := Lib.hid (hno hS2.res hS2.ext)
    go_wp2
    exact bodyPost_ret (v := .tuple #[.agg #[.int .i64 0, .slice none 0 0, .slice none 0 0], .int .i64 3]) (by simp [results, Tryz.results14, go_sem, d]) rfl ⟨HXF.out, .inl ⟨3, .inl rfl, rfl⟩⟩
  · have k0 := hS2.fnd.cell 0
    have g0 := hS2.res.cell 0
    have g1 := hS2.res.cell 1
    have g2 := hS2.res.cell 2
    have f := hS2.res.frozen
    have d := (((hS2.res.set_ 0 (.int .i64 0)).set_ 1 (.slice none 0 0)).set_ 2 (.slice none 0 0)).cell
    simp only [List.getElem?_toArray, List.getElem?_cons_zero, List.getElem?_cons_succ] at k0 g0 g1 g2
    have HXF := Lib.hid (hno hS2.res hS2.ext)
    go_wp2
    exact bodyPost_ret (v := .tuple #[.agg #[.int .i64 0, .slice none 0 0, .slice none 0 0], .int .i64 5]) (by simp [results, Tryz.results14, go_sem, d]) rfl ⟨HXF.out, .inl ⟨5, .inr rfl, rfl⟩⟩
  · obtain ⟨Au, cu, rfl, _, _⟩ := hI2.ints.form
    have k0 := hF2.cell 0
    have y0 := hP2.cell 0
    have y1 := hP2.cell 1
    have y2 := hP2.cell 2
    have g0 := hB2.cell 0
    have g1 := hB2.cell 1
    have g2 := hB2.cell 2
    have f := hB2.frozen
    generalize hzz : (autP L R).ns = zs at *
    have HZ := Lib.hid hzz
    have d := (((hB2.set_ 0 (.int .i64 7)).set_ 1 (.slice Au zs.length cu)).set_ 2 (.slice none 0 0)).cell
    simp only [List.getElem?_toArray, List.getElem?_cons_zero, List.getElem?_cons_succ] at k0 y0 y1 y2 g0 g1 g2
    have HXF := Lib.hid (((hE2.setCell (p := ⟨w.heap.size + 1, 0, none⟩) hg (.int .i64 7)).setCell (p := ⟨w.heap.size + 1, 1, none⟩) hg (.slice Au zs.length cu)).setCell (p := ⟨w.heap.size + 1, 2, none⟩) hg (.slice none 0 0))
    have hfar := own_far_blk hI2 hB2 (by decide)
    have HI := Lib.hid (OwnInts.ints (ownsRow_far (ownsRow_far (ownsRow_far hI2 hfar (.int .i64 7) (p := ⟨w.heap.size + 1, 0, none⟩)) hfar (.slice Au zs.length cu) (p := ⟨w.heap.size + 1, 1, none⟩)) hfar (.slice none 0 0) (p := ⟨w.heap.size + 1, 2, none⟩)))
    clear hzz hI2 hfar
    go_wp2
    refine bodyPost_ret (v := .tuple #[.agg #[.int .i64 7, .slice Au zs.length cu, .slice none 0 0], .int .i64 0]) (by simp [results, Tryz.results14, go_sem, d]) rfl ⟨HXF.out, .inr ⟨L, R, _, hL, hR, hC, rfl, ?_⟩⟩
    rw [show (autP L R).ns = zs from HZ.out]
    exact HI.out
end Go.Proofs.YtacpchapgklcgaaGreatDoor
end
section
set_option linter.unusedSimpArgs false
set_option linter.unusedVariables false
namespace Go.Proofs.YtacpchapgklcgaaGreatDoor
open Go Go.RowKit Go.Proofs
set_option maxHeartbeats 400000
/-- What is given: the list, or that one is too long. -/
def PdsRes (w : World) (m : MachD) (x : PartD) (e : Ending) (w' : World) : Prop :=
  Ext w w' ∧ ((longP m x = true ∧ e = .returned (.tuple #[.slice none 0 0, .int .i64 5])) ∨ (longP m x = false ∧ ∃ v, e = .returned (.tuple #[v, .int .i64 0]) ∧ OwnPD w.heap.size w' v (predsP m x)))
def longUp (m : MachD) (x : PartD) (k : Nat) : Bool := (predsUp m x k).any fun y => decide (60 < y.cs.length)
theorem predAt_no {m : MachD} {x : PartD} {k : Nat} (hk : k < m.rules.length) (h : m.rules[k] = noR) : predAt m x k = none := by
  unfold predAt
  rw [List.getD_eq_getElem?_getD, List.getElem?_eq_getElem hk]
  exact if_pos h
theorem predAt_yes {m : MachD} {x : PartD} {k : Nat} (hk : k < m.rules.length) (h : ¬ m.rules[k] = noR) : predAt m x k = predP x ((k : Int) / m.sy) ((k : Int) % m.sy) m.rules[k] := by
  unfold predAt
  rw [List.getD_eq_getElem?_getD, List.getElem?_eq_getElem hk]
  exact if_neg h
theorem long_of {m : MachD} {x y : PartD} {k : Nat} (hk : k < m.rules.length) (h : predAt m x k = some y) (hy : 60 < y.cs.length) : longP m x = true := by
  unfold longP predsP predsUp
  rw [List.any_eq_true]
  exact ⟨y, List.mem_filterMap.2 ⟨k, List.mem_range.2 hk, h⟩, by simpa using hy⟩
/-- Behind the call: the variable's block and the answer. -/
def CutP (w2 : World) (o : Option PartD) (s9 s10 : Value) (wx : World) : Prop :=
  ∃ g9, s9 = .pointer (some ⟨g9, 0, none⟩) ∧ Ext w2 wx ∧ ((o = none ∧ s10 = .bool false) ∨ ∃ y u, o = some y ∧ s10 = .bool true ∧ Blk wx g9 101 #[.int .i64 y.q, .int .i64 (y.p : Int), u] ∧ OwnInts w2.heap.size wx u y.cs)
set_option maxRecDepth 20000 in
set_option maxHeartbeats 4000000 in
theorem predecessors_c (m : MachD) (x : PartD) (mv u : Value) (w : World) (hr : Rules w mv m.rules) (h : OwnInts 0 w u x.cs) (hp : x.p < x.cs.length) (hl : x.cs.length ≤ 1000) (hm : machOk m = true) :
    Calls Tryz.prog 87 #[.agg #[.int .i64 m.sy, .int .i64 m.st, mv], .agg #[.int .i64 x.q, .int .i64 (x.p : Int), u]] w (PdsRes w m x) := by
  have mok := MOk.of hm
  obtain ⟨i0, hi, hz0, hz1, hz2⟩ := info_parts partInfo
  obtain ⟨Am, cm, rfl, _, _⟩ := hr.form
  obtain ⟨A, c, rfl, h1, h2⟩ := h.ints.form
  obtain ⟨V, hV⟩ : ∃ W, (w.alloc (.cells #[.int .i64 m.sy, .int .i64 m.st, .slice Am m.rules.length cm] 26)).alloc (.cells #[.int .i64 x.q, .int .i64 (x.p : Int), .slice A x.cs.length c] 101) = W := ⟨_, rfl⟩
  have hX : Ext w V := by rw [← hV]; exact (Ext.alloc _ _).trans (Ext.alloc _ _)
  have bM : Blk V w.heap.size 26 #[.int .i64 m.sy, .int .i64 m.st, .slice Am m.rules.length cm] := by rw [← hV]; exact (Blk.new _ _ _ _ rfl).alloc _
  have bX : Blk V (w.heap.size + 1) 101 #[.int .i64 x.q, .int .i64 (x.p : Int), .slice A x.cs.length c] := by rw [← hV]; exact Blk.new _ _ _ _ (by simp)
  have hVs : V.heap.size = w.heap.size + 1 + 1 := by rw [← hV]; simp
  obtain ⟨W, hW⟩ : ∃ W, V.alloc (.cells #[] 101) = W := ⟨_, rfl⟩
  have hVW : Ext V W := by rw [← hW]; exact Ext.alloc _ _
  have st00 : OwnPD V.heap.size W (.slice (some ⟨V.heap.size, 0, none⟩) 0 0) [] := by
    refine ⟨[], ?_, fun i hi => by simp at hi⟩
    rw [← hW]
    have := World.ownsRow_made (base := V.heap.size) (e := 101) (size := 3) V #[] 0 (Nat.le_refl _) (by unfold maxLen; omega) (by simp)
    simpa using this
  generalize hg0 : w.heap.size = g at *
  obtain ⟨B, hB⟩ : ∃ B, V.heap.size = B := ⟨_, rfl⟩
  have st0 : OwnPD B W (.slice (some ⟨V.heap.size, 0, none⟩) 0 0) [] := by rw [← hB]; exact st00
  clear st00
  have m0 := (bM.ext hVW).cell 0
  have m1 := (bM.ext hVW).cell 1
  have m2 := (bM.ext hVW).cell 2
  simp only [List.getElem?_toArray, List.getElem?_cons_zero, List.getElem?_cons_succ] at m0 m1 m2
  have hwg := hX.size
  have HVS := Lib.hid hVs
  have HB := Lib.hid hB
  clear hVs hB
  go_enter Tryz.func87, Tryz.ntmps87
  go_wp2_with fail
  try rw [hV]
  try rw [hW]
  clear hW hV
  go_loopw [6, 15] (fun l i wr => ∃ k : Nat, k ≤ m.rules.length ∧ i = .int .i64 (k : Int) ∧ OwnPD B wr l (predsUp m x k) ∧ Ext V wr ∧ Hid (longUp m x k = false)) (fun _ i _ => m.rules.length - (intOf i).toNat)
  case atStart => exact ⟨0, Nat.zero_le _, rfl, st0, hVW, Lib.hid rfl⟩
  case round =>
    clear st0
    obtain ⟨k, hk, rfl, stk, hxr, HL⟩ := hrel
    by_cases hlt : k < m.rules.length
    · obtain ⟨Al, cl, rfl, hl1, hl2⟩ := stk.form
      obtain ⟨b', off, rfl, hc⟩ := hr.at hlt
      obtain ⟨q0, q1, q2⟩ := hc k hlt
      have hXr := hX.trans hxr
      have q0 := hXr.cell q0
      have q1 := hXr.cell q1
      have q2 := hXr.cell q2
      have hNO := fun e => predAt_no (x := x) hlt e
      have hYES := fun e => predAt_yes (x := x) hlt e
      have hmv := mok.mv _ (List.getElem_mem hlt)
      have hmv1 := mv1 hm _ (List.getElem_mem hlt)
      have hnx := predsUp_next m x k
      have hlong := fun y => long_of (m := m) (x := x) (y := y) hlt
      obtain ⟨r, hre⟩ : ∃ r, m.rules[k] = r := ⟨_, rfl⟩
      rw [hre] at q0 q1 q2 hNO hYES hmv hmv1
      have HR := Lib.hid hr
      clear hc hre hr
      have i1 : (0 : Int) ≤ (k : Int) := by omega
      have i2 : (k : Int) < (m.rules.length : Int) := by omega
      obtain ⟨n8, hn8⟩ : ∃ n, wr.heap.size = n := ⟨_, rfl⟩
      obtain ⟨W1, hW1⟩ : ∃ X, wr.alloc (.cells #[.int .i64 r.w, .int .i64 r.m, .int .i64 r.n] 38) = X := ⟨_, rfl⟩
      have E1 : Ext wr W1 := by rw [← hW1]; exact Ext.alloc _ _
      have b1 : Blk W1 n8 38 #[.int .i64 r.w, .int .i64 r.m, .int .i64 r.n] := by rw [← hW1]; exact Blk.new _ _ _ _ hn8
      have v0 := b1.cell 0
      have v1 := b1.cell 1
      have v2 := b1.cell 2
      simp only [List.getElem?_toArray, List.getElem?_cons_zero, List.getElem?_cons_succ] at v0 v1 v2
      have stk1 := stk.ext E1
      have his := fun w => isRule_c r.w r.m r.n w
      have HW1 := Lib.hid hW1
      have HN8 := Lib.hid hn8
      rw [← hW1] at v0 v1 v2
      rw [← hn8] at v0 v1 v2
      clear hW1 hn8
      go_wp2_with fail
      rw [HW1.out, HN8.out]
      refine (his _).mono ?_
      rintro e w2 ⟨rfl, hx2⟩
      rw [HW1.out, HN8.out] at v0 v1 v2
      have hX2 := (hXr.trans E1).trans hx2
      have hxr2 := (hxr.trans E1).trans hx2
      have stk2 := stk1.ext hx2
      cases hisr : isR (⟨r.w, r.m, r.n⟩ : RuleD) with
      | false =>
        have hno : r = noR := by simpa [isR, rEq] using hisr
        have he : predsUp m x (k + 1) = predsUp m x k := by rw [hnx, hNO hno]; simp
        have HE := Lib.hid he
        clear he hNO hYES hnx hmv hmv1 hlong hno
        go_wp2_with fail
        go_roundw
        case rel => exact ⟨k + 1, by omega, by go_num, by rw [HE.out]; exact stk2, hxr2, Lib.hid (by unfold longUp; rw [HE.out]; exact HL.out)⟩
        case measure => simp [intOf]; omega
      | true =>
        have hyes : ¬ r = noR := by intro e; rw [e] at hisr; simp [isR, rEq, noR] at hisr
        have hpa := hYES hyes
        have hm1 := hmv1 hyes
        clear hNO hYES hmv hmv1
        have bX2 := (bX.ext hxr2).drew
        have e1 := bX2.cell 0
        have e2 := bX2.cell 1
        have e3 := bX2.cell 2
        have e4 := ((bM.ext hxr2).drew).cell 0
        have b2 := (b1.ext hx2).drew
        have e5 := b2.cell 0
        have e6 := b2.cell 1
        have e7 := b2.cell 2
        simp only [List.getElem?_toArray, List.getElem?_cons_zero, List.getElem?_cons_succ] at e1 e2 e3 e4 e5 e6 e7
        have hs0 : ¬ m.sy = 0 := by have := mok.sy1; omega
        have hqq : IntKind.i64.wrap ((k : Int).tdiv m.sy) = (k : Int) / m.sy := by
          have e1 : 0 ≤ (k : Int) / m.sy := Int.ediv_nonneg (by omega) (by have := mok.sy1; omega)
          have e2 : (k : Int) / m.sy ≤ (k : Int) := Int.ediv_le_self _ (by omega)
          rw [Int.tdiv_eq_ediv_of_nonneg (by omega)]
          exact IntWalk.i64_in _ (by have := mok.len2; omega)
        have hqm : (k : Int).tmod m.sy = (k : Int) % m.sy := Int.tmod_eq_emod_of_nonneg (by omega)
        have hq2 := Int.tdiv_eq_ediv_of_nonneg (b := m.sy) (show (0 : Int) ≤ (k : Int) by omega)
        rw [hq2] at hqq
        clear hq2
        obtain ⟨kq, hkq⟩ : ∃ z, (k : Int) / m.sy = z := ⟨_, rfl⟩
        obtain ⟨ks, hks⟩ : ∃ z, (k : Int) % m.sy = z := ⟨_, rfl⟩
        rw [hkq] at hqq hpa
        rw [hks] at hqm hpa
        have hqq' : IntKind.i64.wrap ((k : Int) / m.sy) = kq := by rw [hkq]; exact hqq
        have hxD := hX2.trans (Ext.drew w2)
        have hprd := fun W' hx => predecessor_c x kq ks r (.slice A x.cs.length c) W' (h.ext hx) hp hl hm1
        rw [← hpa] at hprd
        have HPA := Lib.hid hpa
        clear hpa
        go_upto_region 6 with fail
        go_cut [9, 10] (fun s9 s10 wx => CutP w2 (predAt m x k) s9 s10 wx)
        case first =>
          generalize predAt m x k = o at *
          refine wp_region_ordT 16 (readsT [0, 1, 2, 3, 4, 5, 6, 7, 8, 9] (.fork 10 (readsT [11, 12, 13] (.stir 14 (.stir 15 .done))) 14 (.stir 10 (readsT [11, 12, 13] (.stir 15 .done))))) (by kernel_rfl) (by kernel_rfl) (fun _ _ _ _ _ h => h) ?_
          simp only [readsT]
          repeat (refine wpOrdT_read (v := ?_) (by rfl) (Or.inl ⟨by rfl, fun x hx => ?_⟩) ?_; rotate_left; (· have a1 := hx.cell e1; have a2 := hx.cell e2; have a3 := hx.cell e3; have a4 := hx.cell e4; have a5 := hx.cell e5; have a6 := hx.cell e6; have a7 := hx.cell e7; go_simp; try with_reducible rfl); try simp only [Act.put, List.setIfInBounds_toArray, List.set_cons_zero, List.set_cons_succ])
          have hG2 := Ext.drew w2
          refine wpOrdT_forks (by rfl) (by rfl) (fun K hK => ?_) (fun K hK => ?_)
          · go_simp
            go_at_call 113
            refine (hprd _ hxD).mono ?_
            rintro e w3 ⟨hx3, ⟨ho, rfl⟩ | ⟨y, uy, ho, rfl, hoy⟩⟩
            · refine hK (Ext w2.drew) _ _ (fun _ h => h) hx3 ?_
              clear hK K
              repeat (refine wpOrdT_read (v := ?_) (by rfl) (Or.inl ⟨by rfl, fun x hx => ?_⟩) ?_; rotate_left; (· go_simp; try with_reducible rfl); try simp only [Act.put, List.setIfInBounds_toArray, List.set_cons_zero, List.set_cons_succ])
              refine wpOrdT_keep (by rfl) (fun K hK => ?_)
              go_simp
              refine hK _ _ (hx3.trans (Ext.alloc _ _)) ?_
              clear hK K
              refine wpOrdT_keep (by rfl) (fun K hK => ?_)
              go_simp
              refine hK _ _ (hx3.trans (Ext.alloc _ _)) ?_
              clear hK K
              refine wpOrdT_done ?_
              try simp only [List.drop_succ_cons, List.drop_zero]
              go_wp2_with fail
              go_meet
              exact ⟨_, rfl, (hG2.trans hx3).trans (Ext.alloc _ _), .inl ⟨ho, rfl⟩⟩
            · obtain ⟨Ay, cy, rfl, _, _⟩ := hoy.ints.form
              refine hK (Ext w2.drew) _ _ (fun _ h => h) hx3 ?_
              clear hK K
              repeat (refine wpOrdT_read (v := ?_) (by rfl) (Or.inl ⟨by rfl, fun x hx => ?_⟩) ?_; rotate_left; (· go_simp; try with_reducible rfl); try simp only [Act.put, List.setIfInBounds_toArray, List.set_cons_zero, List.set_cons_succ])
              refine wpOrdT_keep (by rfl) (fun K hK => ?_)
              go_simp
              refine hK _ _ (hx3.trans (Ext.alloc _ _)) ?_
              clear hK K
              refine wpOrdT_keep (by rfl) (fun K hK => ?_)
              go_simp
              refine hK _ _ (hx3.trans (Ext.alloc _ _)) ?_
              clear hK K
              refine wpOrdT_done ?_
              try simp only [List.drop_succ_cons, List.drop_zero]
              go_wp2_with fail
              go_meet
              exact ⟨_, rfl, (hG2.trans hx3).trans (Ext.alloc _ _), .inr ⟨y, _, ho, rfl, Blk.new _ _ _ _ rfl, OwnInts.base (hoy.ext (Ext.alloc _ _)) (Nat.le_refl _)⟩⟩
          · go_simp
            obtain ⟨n9, hn9⟩ : ∃ n, w2.heap.size = n := ⟨_, rfl⟩
            have hn9' : w2.drew.heap.size = n9 := hn9
            have eZ := Ext.alloc w2.drew (.cells #[.int .i64 0, .int .i64 0, .slice none 0 0] 101)
            have bZ : Blk (w2.drew.alloc (.cells #[.int .i64 0, .int .i64 0, .slice none 0 0] 101)) n9 101 #[.int .i64 0, .int .i64 0, .slice none 0 0] := Blk.new _ _ _ _ hn9'
            have hpz := hprd _ (hxD.trans eZ)
            have hle9 : w2.drew.heap.size ≤ n9 := Nat.le_of_eq hn9'
            refine hK (Ext w2.drew) _ _ (fun _ h => h) eZ ?_
            clear hK K
            refine wpOrdT_keep (by rfl) (fun K hK => ?_)
            go_simp
            go_at_call 113
            refine hpz.mono ?_
            rintro e w3 ⟨hx3, ⟨ho, rfl⟩ | ⟨y, uy, ho, rfl, hoy⟩⟩
            · have bZ3 := bZ.ext hx3
              have z0 := bZ3.cell 0
              have z1 := bZ3.cell 1
              have z2 := bZ3.cell 2
              have f0 := bZ3.frozen 0
              have f1 := bZ3.frozen 1
              have f2 := bZ3.frozen 2
              simp only [List.getElem?_toArray, List.getElem?_cons_zero, List.getElem?_cons_succ] at z0 z1 z2
              have hp3 := prd_put (eZ.trans hx3) hle9 bZ3 (own_nil0 _) (.int .i64 0) (.int .i64 0)
              refine hK _ _ (eZ.trans hx3) ?_
              clear hK K
              repeat (refine wpOrdT_read (v := ?_) (by rfl) (Or.inl ⟨by rfl, fun x hx => ?_⟩) ?_; rotate_left; (· go_simp; try with_reducible rfl); try simp only [Act.put, List.setIfInBounds_toArray, List.set_cons_zero, List.set_cons_succ])
              refine wpOrdT_keep (by rfl) (fun K hK => ?_)
              rw [← hn9] at *
              go_simp
              refine hK _ _ hp3.1 ?_
              clear hK K
              refine wpOrdT_done ?_
              try simp only [List.drop_succ_cons, List.drop_zero]
              go_wp2_with fail
              go_meet
              exact ⟨_, rfl, hG2.trans hp3.1, .inl ⟨ho, rfl⟩⟩
            · obtain ⟨Ay, cy, rfl, _, _⟩ := hoy.ints.form
              have bZ3 := bZ.ext hx3
              have z0 := bZ3.cell 0
              have z1 := bZ3.cell 1
              have z2 := bZ3.cell 2
              have f0 := bZ3.frozen 0
              have f1 := bZ3.frozen 1
              have f2 := bZ3.frozen 2
              simp only [List.getElem?_toArray, List.getElem?_cons_zero, List.getElem?_cons_succ] at z0 z1 z2
              have hp3 := prd_put (eZ.trans hx3) hle9 bZ3 hoy (.int .i64 y.q) (.int .i64 (y.p : Int))
              have b3 := ((bZ3.set_ 0 (.int .i64 y.q)).set_ 1 (.int .i64 (y.p : Int))).set_ 2 (.slice Ay y.cs.length cy)
              refine hK _ _ (eZ.trans hx3) ?_
              clear hK K
              repeat (refine wpOrdT_read (v := ?_) (by rfl) (Or.inl ⟨by rfl, fun x hx => ?_⟩) ?_; rotate_left; (· go_simp; try with_reducible rfl); try simp only [Act.put, List.setIfInBounds_toArray, List.set_cons_zero, List.set_cons_succ])
              refine wpOrdT_keep (by rfl) (fun K hK => ?_)
              rw [← hn9] at *
              go_simp
              refine hK _ _ hp3.1 ?_
              clear hK K
              refine wpOrdT_done ?_
              try simp only [List.drop_succ_cons, List.drop_zero]
              go_wp2_with fail
              go_meet
              exact ⟨_, rfl, hG2.trans hp3.1, .inr ⟨y, _, ho, rfl, b3, OwnInts.base hp3.2 eZ.size⟩⟩
        case rest =>
          rename World => w4
          obtain ⟨g9, rfl, hx4, ⟨ho, rfl⟩ | ⟨y, uy, ho, rfl, b9, hoy⟩⟩ := hcut
          · have he : predsUp m x (k + 1) = predsUp m x k := by rw [hnx, ho]; simp
            have HE := Lib.hid he
            have stk4 := stk2.ext hx4
            have hxr4 := hxr2.trans hx4
            clear he hnx hlong ho
            go_wp2_with fail
            go_roundw
            case rel => exact ⟨k + 1, by omega, by go_num, by rw [HE.out]; exact stk4, hxr4, Lib.hid (by unfold longUp; rw [HE.out]; exact HL.out)⟩
            case measure => simp [intOf]; omega
          · have he : predsUp m x (k + 1) = predsUp m x k ++ [y] := by rw [hnx, ho]; rfl
            have HLY := Lib.hid (hlong y ho)
            have HE := Lib.hid he
            obtain ⟨vs, ow, pd⟩ := stk2.ext hx4
            have hxr4 := hxr2.trans hx4
            obtain ⟨Ay, cy, rfl, _, _⟩ := hoy.ints.form
            have z0 := b9.cell 0
            have z1 := b9.cell 1
            have z2 := b9.cell 2
            simp only [List.getElem?_toArray, List.getElem?_cons_zero, List.getElem?_cons_succ] at z0 z1 z2
            have hxw4 := hX.trans hxr4
            have hpl : (predsUp m x k).length ≤ 6000 := by
              have h1 : (predsUp m x k).length ≤ k := by
                unfold predsUp
                have := List.length_filterMap_le (predAt m x) (List.range k)
                simpa using this
              have := mok.len2
              omega
            have hn1 : (predsUp m x (k + 1)).length = (predsUp m x k).length + 1 := by rw [he]; simp
            have HN1 := Lib.hid hn1
            clear he hnx hlong ho hn1
            by_cases h60 : 60 < y.cs.length
            · have hd : (60 : Int) < (y.cs.length : Int) := by omega
              go_wp2_with fail
              refine bodyPost_ret (v := .tuple #[.slice none 0 0, .int .i64 5]) (by simp [results, Tryz.results87, go_sem]) rfl ⟨hxw4, .inl ⟨HLY.out h60, rfl⟩⟩
            · have hd : ¬ (60 : Int) < (y.cs.length : Int) := by omega
              have HP := Lib.hid pd
              have HOY := Lib.hid hoy
              have eA := Ext.alloc w4 (.cells #[.int .i64 y.q, .int .i64 (y.p : Int), .slice Ay y.cs.length cy] 101)
              have how := ownsRow_ext ow eA
              have hsz4 := hxw4.size
              clear pd hoy stk stk1 stk2 ow
              go_wp2_with (at_builtin; refine wpList_append_own_at _ rfl _ _ 102 rfl B 101 i0 (.agg #[.int .i64 0, .int .i64 0, .slice none 0 0]) 3 40 Tryz.underlying102 hi hz0 hz1 hz2 rfl (by decide) _ _ vs rfl how ⟨w4.heap.size, 0, none⟩ 1 1 [.int .i64 y.q, .int .i64 (y.p : Int), .slice Ay y.cs.length cy] rfl rfl (World.news_of_block (heap_alloc_new w4 _)) ?c2 ?c3 ?c4 ?c5 ?_)
              case c2 => first | exact ⟨rfl, rfl, rfl⟩ | (intro u hu; simp at hu; rcases hu with rfl | rfl | rfl <;> rfl)
              case c3 => unfold maxLen; omega
              case c4 => omega
              case c5 => have := HB.out; have := hxr4.size; simp; omega
              intro v' w9 hown9 hg9 _ _
              have hx9 := Lib.hid ((hxr4.trans eA).grown hg9 (fun b hb => by rw [HB.out]; exact (how.lt b hb).1))
              have hst9 : OwnPD B w9 v' (predsUp m x (k + 1)) := by
                refine ⟨vs ++ [.int .i64 y.q, .int .i64 (y.p : Int), .slice Ay y.cs.length cy], by rw [HN1.out]; exact hown9, ?_⟩
                rw [HE.out]
                exact PdAt.kept ((HP.out.ext eA).snoc how.1 (OwnInts.base (HOY.out.ext eA) (by have := HB.out; have := hxr2.size; omega))) how hg9
              have HS9 := Lib.hid hst9
              have HL9 : Hid (longUp m x (k + 1) = false) := Lib.hid (by
                unfold longUp
                rw [HE.out, List.any_append]
                have h1 := HL.out
                unfold longUp at h1
                rw [h1]
                simp
                omega)
              obtain ⟨A9, c9, rfl, _, _⟩ := hst9.form
              clear hown9 hg9 hst9 how
              go_wp2
              go_roundw
              case rel => exact ⟨k + 1, by omega, by go_num, HS9.out, hx9.out, HL9⟩
              case measure => simp [intOf]; omega
    · have hke : k = m.rules.length := by omega
      have hfin : Hid (longP m x = false ∧ predsP m x = predsUp m x k) := Lib.hid (by rw [hke]; exact ⟨by have := HL.out; rw [hke] at this; exact this, rfl⟩)
      obtain ⟨Al, cl, rfl, hl1, hl2⟩ := stk.form
      obtain ⟨vs, ow, pd⟩ := stk
      have hres : Hid (OwnPD w.heap.size wr (.slice Al (predsUp m x k).length cl) (predsUp m x k)) := Lib.hid ⟨vs, ownsRow_base ow (by have := HB.out; have := HVS.out; omega), pd.low (by have := HB.out; have := HVS.out; omega)⟩
      have hxe := Lib.hid (hX.trans hxr)
      clear ow pd hke HL
      go_wp2_with fail
      refine bodyPost_ret (v := .tuple #[.slice Al (predsUp m x k).length cl, .int .i64 0]) (by simp [results, Tryz.results87, go_sem]) rfl ⟨hxe.out, .inr ⟨hfin.out.1, _, rfl, ?_⟩⟩
      rw [hfin.out.2]
      exact hres.out
end Go.Proofs.YtacpchapgklcgaaGreatDoor
end
section
set_option linter.unusedSimpArgs false
set_option linter.unusedVariables false
namespace Go.Proofs.YtacpchapgklcgaaGreatDoor
open Go Go.RowKit Go.Proofs
theorem cut_at {m : UInt8} {a b : List UInt8} {s t : List UInt8} (ha : ∀ c ∈ a, c ≠ m) (hb : ∀ c ∈ b, c ≠ m) (h : a ++ m :: s = b ++ m :: t) : a = b ∧ s = t := by
  induction a generalizing b with
  | nil =>
    cases b with
    | nil => simpa using h
    | cons c b => simp only [List.nil_append, List.cons_append, List.cons.injEq] at h; exact absurd h.1.symm (hb c List.mem_cons_self)
  | cons c a ih =>
    cases b with
    | nil => simp only [List.nil_append, List.cons_append, List.cons.injEq] at h; exact absurd h.1 (ha c List.mem_cons_self)
    | cons d b =>
      simp only [List.cons_append, List.cons.injEq] at h
      obtain ⟨rfl, h⟩ := h
      obtain ⟨e1, e2⟩ := ih (fun c hc => ha c (List.mem_cons_of_mem _ hc)) (fun c hc => hb c (List.mem_cons_of_mem _ hc)) h
      exact ⟨by rw [e1], e2⟩
theorem digU_range {z : Int} (h0 : 0 ≤ z) (h1 : z ≤ 9) : isDig (digU z) = true := by
  rcases (show z = 0 ∨ z = 1 ∨ z = 2 ∨ z = 3 ∨ z = 4 ∨ z = 5 ∨ z = 6 ∨ z = 7 ∨ z = 8 ∨ z = 9 by omega) with e | e | e | e | e | e | e | e | e | e <;> rw [e] <;> decide
theorem digB_dig {zs : List Int} (h : ∀ z ∈ zs, 0 ≤ z ∧ z ≤ 9) : ∀ c ∈ digB zs, isDig c = true := by
  intro c hc
  unfold digB at hc
  obtain ⟨z, hz, rfl⟩ := List.mem_map.1 hc
  exact digU_range (h z hz).1 (h z hz).2
theorem digB_inj : ∀ {xs ys : List Int}, (∀ z ∈ xs, 0 ≤ z ∧ z ≤ 9) → (∀ z ∈ ys, 0 ≤ z ∧ z ≤ 9) → digB xs = digB ys → xs = ys
  | [], [], _, _, _ => rfl
  | [], _ :: _, _, _, h => by simp [digB] at h
  | _ :: _, [], _, _, h => by simp [digB] at h
  | a :: xs, b :: ys, hx, hy, h => by
    simp only [digB, List.map_cons, List.cons.injEq] at h
    have ha := hx a List.mem_cons_self
    have hb := hy b List.mem_cons_self
    have e1 := digU_nat ha.1 ha.2
    have e2 := digU_nat hb.1 hb.2
    rw [h.1, e2] at e1
    have e3 : a = b := by omega
    rw [e3, digB_inj (fun z hz => hx z (List.mem_cons_of_mem _ hz)) (fun z hz => hy z (List.mem_cons_of_mem _ hz)) h.2]
theorem itoa_dig {n : Int} (h : 0 ≤ n) : ∀ c ∈ Lib.itoa n, isDig c = true := by
  intro c hc
  unfold Lib.itoa at hc
  split at hc
  · omega
  · exact decDigits_dig _ c hc
theorem dig_ne {c m : UInt8} (h : isDig c = true) (hm : isDig m = false) : c ≠ m := by
  intro e
  rw [e, hm] at h
  cases h
theorem keyP_inj {x y : PartD} (hx : TextOk x) (hy : TextOk y) (h : keyP x = keyP y) : x = y := by
  obtain ⟨xq, xp, xc⟩ := x
  obtain ⟨yq, yp, yc⟩ := y
  obtain ⟨x1, x2, x3, x4, x5⟩ := hx
  obtain ⟨y1, y2, y3, y4, y5⟩ := hy
  simp only at x1 x2 x3 x4 x5 y1 y2 y3 y4 y5
  unfold keyP at h
  simp only [List.append_assoc, List.cons_append, List.nil_append] at h
  have t1 : ∀ z ∈ xc.take xp, 0 ≤ z ∧ z ≤ 9 := fun z hz => x5 z (List.mem_of_mem_take hz)
  have t2 : ∀ z ∈ yc.take yp, 0 ≤ z ∧ z ≤ 9 := fun z hz => y5 z (List.mem_of_mem_take hz)
  have t3 : ∀ z ∈ xc.drop xp, 0 ≤ z ∧ z ≤ 9 := fun z hz => x5 z (List.mem_of_mem_drop hz)
  have t4 : ∀ z ∈ yc.drop yp, 0 ≤ z ∧ z ≤ 9 := fun z hz => y5 z (List.mem_of_mem_drop hz)
  obtain ⟨e1, h⟩ := cut_at (m := 91) (fun c hc => dig_ne (digB_dig t1 c hc) (by decide)) (fun c hc => dig_ne (digB_dig t2 c hc) (by decide)) h
  obtain ⟨e2, h⟩ := cut_at (m := 93) (fun c hc => dig_ne (itoa_dig x1 c hc) (by decide)) (fun c hc => dig_ne (itoa_dig y1 c hc) (by decide)) h
  have e1 := digB_inj t1 t2 e1
  have e3 := digB_inj t3 t4 h
  have e4 := itoa_inj e2
  have e5 : xp = yp := by
    have := congrArg List.length e1
    simp only [List.length_take] at this
    omega
  subst e4 e5
  have e6 : xc = yc := by rw [← List.take_append_drop xp xc, ← List.take_append_drop xp yc, e1, e3]
  rw [e6]
/-- A partial configuration of a machine. -/
structure PartOk (m : MachD) (x : PartD) : Prop where
  q0 : 0 ≤ x.q
  q1 : x.q < m.st
  p : x.p < x.cs.length
  len : x.cs.length ≤ 60
  cs : ∀ z ∈ x.cs, 0 ≤ z ∧ z < m.sy
theorem PartOk.text {m : MachD} (hm : MOk m) {x : PartD} (h : PartOk m x) : TextOk x := by
  have h1 := hm.st2
  have h2 := hm.sy2
  exact ⟨h.q0, by have := h.q1; omega, h.p, by have := h.len; omega, fun z hz => by have := h.cs z hz; omega⟩
theorem predP_ok {m : MachD} {x y : PartD} {q a : Int} {r : RuleD} (h : PartOk m x) (q0 : 0 ≤ q) (q1 : q < m.st) (a0 : 0 ≤ a) (a1 : a < m.sy) (hr : r.m = 1 ∨ r.m = -1) (he : predP x q a r = some y) (hl : y.cs.length ≤ 60) : PartOk m y := by
  have hp := h.p
  unfold predP at he
  split at he
  · cases he
  · split at he
    · injection he with he
      subst he
      exact ⟨q0, q1, by simp, hl, fun z hz => by
        rcases List.mem_cons.1 hz with rfl | hz
        · exact ⟨a0, a1⟩
        · exact h.cs z hz⟩
    · split at he
      · injection he with he
        subst he
        exact ⟨q0, q1, by simp, hl, fun z hz => by
          rcases List.mem_append.1 hz with hz | hz
          · exact h.cs z hz
          · rw [List.mem_singleton] at hz; rw [hz]; exact ⟨a0, a1⟩⟩
      · split at he
        · cases he
        · injection he with he
          subst he
          refine ⟨q0, q1, by simp; omega, hl, fun z hz => ?_⟩
          rcases List.mem_or_eq_of_mem_set hz with hz | rfl
          · exact h.cs z hz
          · exact ⟨a0, a1⟩
theorem predsP_ok {m : MachD} (hm : machOk m = true) {x : PartD} (h : PartOk m x) (hlong : longP m x = false) : ∀ y ∈ predsP m x, PartOk m y := by
  have mok := MOk.of hm
  intro y hy
  have hl : y.cs.length ≤ 60 := by
    unfold longP at hlong
    rw [List.any_eq_false] at hlong
    have := hlong y hy
    simpa using this
  unfold predsP predsUp at hy
  obtain ⟨k, hk, e⟩ := List.mem_filterMap.1 hy
  rw [List.mem_range] at hk
  unfold predAt at e
  split at e
  · cases e
  · rename_i hn
    have hq := mok.quo (k := (k : Int)) (by omega) (by omega)
    have eg : m.rules.getD k noR = m.rules[k] := by rw [List.getD_eq_getElem?_getD, List.getElem?_eq_getElem hk]; rfl
    rw [eg] at e hn
    exact predP_ok h hq.1.1 hq.1.2 hq.2.1 hq.2.2 (mv1 hm _ (List.getElem_mem hk) hn) e hl
theorem haltP_ok {m : MachD} (hm : machOk m = true) : ∀ x ∈ haltP m, PartOk m x := by
  have mok := MOk.of hm
  intro x hx
  unfold haltP at hx
  obtain ⟨z, hz, rfl⟩ := List.mem_map.1 hx
  obtain ⟨j, hj, rfl⟩ := List.getElem_of_mem hz
  have hb := freeTo_get m.rules m.rules.length j hj
  generalize (freeTo m.rules m.rules.length)[j] = z at *
  have q := mok.quo hb.1 hb.2
  exact ⟨q.1.1, q.1.2, by simp, by simp, fun y hy => by rw [List.mem_singleton] at hy; rw [hy]; exact q.2⟩
/-- The keys of a list. -/
def keysB (l : List PartD) (k : List UInt8) : Bool := decide (∃ x ∈ l, keyP x = k)
theorem keysB_iff {l : List PartD} {x : PartD} (hn : ∀ y ∈ l, TextOk y) (hx : TextOk x) : keysB l (keyP x) = decide (x ∈ l) := by
  unfold keysB
  by_cases h : x ∈ l
  · rw [decide_eq_true h, decide_eq_true]
    exact ⟨x, h, rfl⟩
  · rw [decide_eq_false h, decide_eq_false]
    rintro ⟨y, hy, e⟩
    exact h (keyP_inj (hn y hy) hx e ▸ hy)
theorem keysB_snoc (l : List PartD) (x : PartD) (k : List UInt8) : keysB (l ++ [x]) k = (decide (k = keyP x) || keysB l k) := by
  unfold keysB
  rw [Bool.eq_iff_iff]
  simp only [decide_eq_true_eq, Bool.or_eq_true, List.mem_append, List.mem_singleton]
  constructor
  · rintro ⟨y, h | h, e⟩
    · exact .inr ⟨y, h, e⟩
    · subst h; exact .inl e.symm
  · rintro (h | ⟨y, h, e⟩)
    · exact ⟨x, .inr rfl, h.symm⟩
    · exact ⟨y, .inl h, e⟩
theorem foldB_take (l ys : List PartD) (k : Nat) (h : k < ys.length) : (ys.take (k + 1)).foldl addB l = addB ((ys.take k).foldl addB l) ys[k] := by
  rw [List.take_succ_eq_append_getElem h, List.foldl_append]
  rfl
theorem foldB_all {p : PartD → Prop} : ∀ {ys l : List PartD}, (∀ y ∈ l, p y) → (∀ y ∈ ys, p y) → ∀ y ∈ ys.foldl addB l, p y := by
  intro ys l hl hy y h
  rcases foldP_mem.1 h with h | h
  · exact hl y h
  · exact hy y h
theorem foldB_len : ∀ (ys l : List PartD), (ys.foldl addB l).length ≤ l.length + ys.length := by
  intro ys
  induction ys with
  | nil => intro l; simp
  | cons a ys ih =>
    intro l
    have := ih (addB l a)
    have h2 : (addB l a).length ≤ l.length + 1 := by unfold addB; split <;> simp
    simp only [List.foldl_cons, List.length_cons]
    omega
theorem predsP_len (m : MachD) (x : PartD) : (predsP m x).length ≤ m.rules.length := by
  unfold predsP predsUp
  have := List.length_filterMap_le (predAt m x) (List.range m.rules.length)
  simpa using this
theorem keyP_len {x : PartD} (h : TextOk x) : (keyP x).length ≤ 2100 := by
  have h1 := Lib.itoa_length_le x.q (by have := h.q0; omega) (by have := h.q1; omega)
  have h2 := h.len
  unfold keyP digB
  simp only [List.length_append, List.length_map, List.length_take, List.length_drop, List.length_cons, List.length_nil]
  omega
end Go.Proofs.YtacpchapgklcgaaGreatDoor
end
