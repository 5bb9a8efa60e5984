/- Contracts of the program's test of a machine with several tapes. No condition.
Contract of the program's test of a machine with several tapes. No condition.
The program's table of what the rules of a machine with several tapes read. -/
import Derived.Test.YtkbpchdncljlbaaGreatDoorV27
import Derived.Test.YtkbpchdncljlbaaGreatDoorV03
import Derived.Test.YtkbpchdncljlbaaGreatDoorV04
import Derived.Test.YtkbpchdncljlbaaGreatDoorV14
import Derived.Test.YtkbpchdncljlbaaGreatDoorV06
import Derived.Laws.IdiomCopy
import Derived.Laws.CopyRow
import Derived.Lib.SlBuf
section
set_option linter.unusedVariables false
set_option linter.unusedSimpArgs false
namespace Go.Proofs.YtkbpchdncljlbaaGreatDoor
open Go Go.RowKit Go.Proofs
set_option maxHeartbeats 400000
theorem compareMultiRules_c (u v : Value) (a b : MRuleD) (w : World) (ha : MRul w u a) (hb : MRul w v b) :
    Calls Tryz.prog 62 #[u, v] w fun e w' => e = .returned (.int .i64 (cmpM a b)) ∧ Ext w w' := by
  obtain ⟨ar, aw, am, rfl, ha1, _, _⟩ := ha
  obtain ⟨br, bw, bm, rfl, hb1, _, _⟩ := hb
  obtain ⟨A1, k1, rfl, _, _⟩ := ha1.form
  obtain ⟨B1, j1, rfl, _, _⟩ := hb1.form
  obtain ⟨W, hW⟩ : ∃ W, W = (w.alloc (.cells #[.int .i64 a.st, .slice A1 a.rd.length k1, aw, am, .int .i64 a.nx] 64)).alloc (.cells #[.int .i64 b.st, .slice B1 b.rd.length j1, bw, bm, .int .i64 b.nx] 64) := ⟨_, rfl⟩
  have hX : Ext w W := by rw [hW]; exact (Ext.alloc _ _).trans (Ext.alloc _ _)
  have hC := slicesCompare_c W _ _ a.rd b.rd (ha1.ext hX) (hb1.ext hX)
  obtain ⟨k, hk⟩ : ∃ k, cmpM a b = k := ⟨_, rfl⟩
  rw [hk]
  have HK := Lib.hid hk
  clear hk
  by_cases he : a.st = b.st
  · have H : (a.st != b.st) = false := by simp [he]
    have HE : Hid (k = cmpL a.rd b.rd) := by unfold Hid; rw [← HK.out, cmpM, if_pos he]
    clear he
    go_enter Tryz.func62, Tryz.ntmps62
    go_wp2_with fail
    try rw [← hW]
    clear hW
    refine hC.mono ?_
    rintro e w' ⟨rfl, rfl⟩
    go_wp2
    go_ret
    exact ⟨by rw [HE.out]; rfl, hX⟩
  · have H : (a.st != b.st) = true := by simp [he]
    by_cases hl : a.st < b.st
    · have HE : Hid (k = -1) := by unfold Hid; rw [← HK.out, cmpM, if_neg he, if_pos hl]
      clear he
      go_enter Tryz.func62, Tryz.ntmps62
      go_wp2
      go_ret
      exact ⟨by rw [HE.out]; rfl, (Ext.alloc _ _).trans (Ext.alloc _ _)⟩
    · have HE : Hid (k = 1) := by unfold Hid; rw [← HK.out, cmpM, if_neg he, if_neg hl]
      clear he
      go_enter Tryz.func62, Tryz.ntmps62
      go_wp2
      go_ret
      exact ⟨by rw [HE.out]; rfl, (Ext.alloc _ _).trans (Ext.alloc _ _)⟩
set_option maxRecDepth 20000 in
set_option maxHeartbeats 4000000 in
theorem validMultiRule_c (rv v : Value) (m : MultiD) (a : MRuleD) (w : World) (ha : MRul w v a) (t1 : 2 ≤ m.tp) (t2 : m.tp ≤ 3) (s1 : 2 ≤ m.sy) (s2 : m.sy ≤ 3) (q1 : 1 ≤ m.st) (q2 : m.st ≤ 16) :
    Calls Tryz.prog 61 #[.agg #[.int .i64 m.tp, .int .i64 m.sy, .int .i64 m.st, rv], v] w fun e w' => e = .returned (.bool (mruleOk m a)) ∧ Ext w w' := by
  obtain ⟨ar, aw, am, rfl, h1, h2, h3⟩ := ha
  obtain ⟨A1, k1, rfl, _, _⟩ := h1.form
  obtain ⟨A2, k2, rfl, _, _⟩ := h2.form
  obtain ⟨A3, k3, rfl, _, _⟩ := h3.form
  obtain ⟨W, hW⟩ : ∃ W, W = (w.alloc (.cells #[.int .i64 m.tp, .int .i64 m.sy, .int .i64 m.st, rv] 26)).alloc (.cells #[.int .i64 a.st, .slice A1 a.rd.length k1, .slice A2 a.wr.length k2, .slice A3 a.mv.length k3, .int .i64 a.nx] 64) := ⟨_, rfl⟩
  have hX : Ext w W := by rw [hW]; exact (Ext.alloc _ _).trans (Ext.alloc _ _)
  have bM : Blk W w.heap.size 26 #[.int .i64 m.tp, .int .i64 m.sy, .int .i64 m.st, rv] := by rw [hW]; exact (Blk.new _ _ _ _ rfl).alloc _
  have bR : Blk W (w.heap.size + 1) 64 #[.int .i64 a.st, .slice A1 a.rd.length k1, .slice A2 a.wr.length k2, .slice A3 a.mv.length k3, .int .i64 a.nx] := by rw [hW]; exact Blk.new _ _ _ _ (by simp)
  have m0 := bM.cell 0
  have m1 := bM.cell 1
  have m2 := bM.cell 2
  have r0 := bR.cell 0
  have r1 := bR.cell 1
  have r2 := bR.cell 2
  have r3 := bR.cell 3
  have r4 := bR.cell 4
  simp only [List.getElem?_toArray, List.getElem?_cons_zero, List.getElem?_cons_succ] at m0 m1 m2 r0 r1 r2 r3 r4
  have hw1 : IntKind.i64.wrap (m.st - 1) = m.st - 1 := IntWalk.i64_in _ (by omega)
  have hw2 : IntKind.i64.wrap (m.sy - 1) = m.sy - 1 := IntWalk.i64_in _ (by omega)
  have W1 := fun w => within_c a.st 0 (m.st - 1) w
  have W2 := fun w => within_c a.nx 0 (m.st - 1) w
  have hr1 := h1.ext hX
  have hr2 := h2.ext hX
  have hr3 := h3.ext hX
  have A1' := fun w (h : Ext W w) => allWithin_c _ a.rd 0 (m.sy - 1) w (hr1.ext h)
  have A2' := fun w (h : Ext W w) => allWithin_c _ a.wr 0 (m.sy - 1) w (hr2.ext h)
  have A3' := fun w (h : Ext W w) => allWithin_c _ a.mv (-1) 1 w (hr3.ext h)
  obtain ⟨b1, hb1⟩ : ∃ b, inB a.st 0 (m.st - 1) = b := ⟨_, rfl⟩
  obtain ⟨b2, hb2⟩ : ∃ b, inB a.nx 0 (m.st - 1) = b := ⟨_, rfl⟩
  obtain ⟨d1, hd1⟩ : ∃ b, decide ((a.rd.length : Int) = m.tp) = b := ⟨_, rfl⟩
  obtain ⟨d2, hd2⟩ : ∃ b, decide ((a.wr.length : Int) = m.tp) = b := ⟨_, rfl⟩
  obtain ⟨d3, hd3⟩ : ∃ b, decide ((a.mv.length : Int) = m.tp) = b := ⟨_, rfl⟩
  obtain ⟨f1, hf1⟩ : ∃ b, (a.rd.all fun z => inB z 0 (m.sy - 1)) = b := ⟨_, rfl⟩
  obtain ⟨f2, hf2⟩ : ∃ b, (a.wr.all fun z => inB z 0 (m.sy - 1)) = b := ⟨_, rfl⟩
  obtain ⟨f3, hf3⟩ : ∃ b, (a.mv.all fun z => inB z (-1) 1) = b := ⟨_, rfl⟩
  have HK : Hid (mruleOk m a = (b1 && b2 && d1 && d2 && d3 && f1 && f2 && f3)) := by
    unfold Hid mruleOk allIn
    rw [hb1, hb2, hd1, hd2, hd3, hf1, hf2, hf3]
  have n1 : ((a.rd.length : Int) != m.tp) = !d1 := by rw [← hd1]; rw [bne, Bool.beq_eq_decide_eq]
  have n2 : ((a.wr.length : Int) != m.tp) = !d2 := by rw [← hd2]; rw [bne, Bool.beq_eq_decide_eq]
  have n3 : ((a.mv.length : Int) != m.tp) = !d3 := by rw [← hd3]; rw [bne, Bool.beq_eq_decide_eq]
  rw [hb1] at W1
  rw [hb2] at W2
  rw [hf1] at A1'
  rw [hf2] at A2'
  rw [hf3] at A3'
  rw [HK.out]
  clear hb1 hb2 hd1 hd2 hd3 hf1 hf2 hf3 HK h1 h2 h3
  go_enter Tryz.func61, Tryz.ntmps61
  go_wp2_with fail
  try rw [← hW]
  clear hW
  refine (W1 W).mono ?_
  rintro e w' ⟨rfl, rfl⟩
  cases b1 with
  | false =>
    go_wp2
    go_ret
    exact ⟨by simp, hX⟩
  | true =>
    go_wp2_with fail
    refine (W2 W).mono ?_
    rintro e w' ⟨rfl, rfl⟩
    cases b2 with
    | false =>
      go_wp2
      go_ret
      exact ⟨by simp, hX⟩
    | true =>
      have e0 := cellR m0
      have e1 := cellR r1
      have e2 := cellR r2
      have e3 := cellR r3
      clear W1 W2
      cases d1 with
      | false =>
        simp only [Bool.not_false] at n1
        go_wp2_with fail
        refine wp_region_ext (by kernel_rfl) (by kernel_rfl) ?_
        repeat (go_big_quiet_step ((go_at_call 96; first | exact Calls.sameR (sizeInt_c _ _ _ (hr1.ext (below_regrown _ _ _))) | exact Calls.sameR (sizeInt_c _ _ _ (hr2.ext (below_regrown _ _ _))) | exact Calls.sameR (sizeInt_c _ _ _ (hr3.ext (below_regrown _ _ _))))))
        refine wpQuiet_nil ?_
        intro w2 hx2
        go_wp2
        go_ret
        exact ⟨by simp, hX.trans hx2⟩
      | true =>
        simp only [Bool.not_true] at n1
        cases d2 with
        | false =>
          simp only [Bool.not_false] at n2
          go_wp2_with fail
          refine wp_region_ext (by kernel_rfl) (by kernel_rfl) ?_
          repeat (go_big_quiet_step ((go_at_call 96; first | exact Calls.sameR (sizeInt_c _ _ _ (hr1.ext (below_regrown _ _ _))) | exact Calls.sameR (sizeInt_c _ _ _ (hr2.ext (below_regrown _ _ _))) | exact Calls.sameR (sizeInt_c _ _ _ (hr3.ext (below_regrown _ _ _))))))
          refine wpQuiet_nil ?_
          intro w2 hx2
          go_wp2
          go_ret
          exact ⟨by simp, hX.trans hx2⟩
        | true =>
          simp only [Bool.not_true] at n2
          cases d3 with
          | false =>
            simp only [Bool.not_false] at n3
            go_wp2_with fail
            refine wp_region_ext (by kernel_rfl) (by kernel_rfl) ?_
            repeat (go_big_quiet_step ((go_at_call 96; first | exact Calls.sameR (sizeInt_c _ _ _ (hr1.ext (below_regrown _ _ _))) | exact Calls.sameR (sizeInt_c _ _ _ (hr2.ext (below_regrown _ _ _))) | exact Calls.sameR (sizeInt_c _ _ _ (hr3.ext (below_regrown _ _ _))))))
            refine wpQuiet_nil ?_
            intro w2 hx2
            go_wp2
            go_ret
            exact ⟨by simp, hX.trans hx2⟩
          | true =>
            simp only [Bool.not_true] at n3
            go_wp2_with fail
            refine wp_region_ext (by kernel_rfl) (by kernel_rfl) ?_
            repeat (go_big_quiet_step ((go_at_call 96; first | exact Calls.sameR (sizeInt_c _ _ _ (hr1.ext (below_regrown _ _ _))) | exact Calls.sameR (sizeInt_c _ _ _ (hr2.ext (below_regrown _ _ _))) | exact Calls.sameR (sizeInt_c _ _ _ (hr3.ext (below_regrown _ _ _))))))
            refine wpQuiet_nil ?_
            intro w2 hx2
            have c0 := hx2.cell r1
            have c1 := hx2.cell r2
            have c2 := hx2.cell r3
            have c3 := hx2.cell m1
            have D1 := A1' w2 hx2
            have D2 := A2' w2 hx2
            have D3 := A3' w2 hx2
            clear A1' A2' A3' e0 e1 e2 e3 r0 r1 r2 r3 r4 m0 m1 m2
            cases f1 with
            | false =>
              go_wp2_with fail
              refine D1.mono ?_
              rintro e w' ⟨rfl, rfl⟩
              go_wp2
              go_ret
              exact ⟨by simp, hX.trans hx2⟩
            | true =>
              cases f2 with
              | false =>
                go_wp2_with fail
                refine D1.mono ?_
                rintro e w' ⟨rfl, rfl⟩
                go_wp2_with fail
                refine D2.mono ?_
                rintro e w' ⟨rfl, rfl⟩
                go_wp2
                go_ret
                exact ⟨by simp, hX.trans hx2⟩
              | true =>
                go_wp2_with fail
                refine D1.mono ?_
                rintro e w' ⟨rfl, rfl⟩
                go_wp2_with fail
                refine D2.mono ?_
                rintro e w' ⟨rfl, rfl⟩
                go_wp2_with fail
                refine D3.mono ?_
                rintro e w' ⟨rfl, rfl⟩
                go_wp2
                go_ret
                exact ⟨by simp, hX.trans hx2⟩
end Go.Proofs.YtkbpchdncljlbaaGreatDoor
end
section
set_option linter.unusedVariables false
set_option linter.unusedSimpArgs false
namespace Go.Proofs.YtkbpchdncljlbaaGreatDoor
open Go Go.RowKit Go.Proofs
set_option maxHeartbeats 400000
theorem multi_no {m : MultiD} {k : Nat} (hk : k < m.rules.length) (h : mstepOk m k = false) : multiOk m = false := by
  cases e : multiOk m with
  | false => rfl
  | true =>
    have := (multi_all e).2.2.2.2 k hk
    rw [h] at this
    cases this
theorem mstep_first (m : MultiD) (h : mruleOk m (m.rules.getD 0 mr0) = true) : mstepOk m 0 = true := by unfold mstepOk; rw [h]; rfl
set_option maxRecDepth 20000 in
set_option maxHeartbeats 4000000 in
theorem ValidMulti_c (v : Value) (m : MultiD) (w : World) (h : Mult w v m) :
    Calls Tryz.prog 27 #[v] w fun e w' => e = .returned (.bool (multiOk m)) ∧ Ext w w' := by
  obtain ⟨rv, rfl, hr⟩ := h
  obtain ⟨A, c, rfl, hc1, hc2⟩ := hr.form
  obtain ⟨W, hW⟩ : ∃ W, W = w.alloc (.cells #[.int .i64 m.tp, .int .i64 m.sy, .int .i64 m.st, .slice A m.rules.length c] 26) := ⟨_, rfl⟩
  have hX : Ext w W := by rw [hW]; exact Ext.alloc _ _
  have bM : Blk W w.heap.size 26 #[.int .i64 m.tp, .int .i64 m.sy, .int .i64 m.st, .slice A m.rules.length c] := by rw [hW]; exact Blk.new _ _ _ _ rfl
  have W1 := fun w => within_c m.tp 2 3 w
  have W2 := fun w => within_c m.sy 2 3 w
  have W3 := fun w => within_c m.st 1 16 w
  have m0 := bM.cell 0
  have m1 := bM.cell 1
  have m2 := bM.cell 2
  have m3 := bM.cell 3
  simp only [List.getElem?_toArray, List.getElem?_cons_zero, List.getElem?_cons_succ] at m0 m1 m2 m3
  obtain ⟨K, hK⟩ : ∃ K, multiOk m = K := ⟨_, rfl⟩
  rw [hK]
  have HK := Lib.hid hK
  clear hK
  go_enter Tryz.func27, Tryz.ntmps27
  go_wp2_with fail
  try rw [← hW]
  clear hW
  refine (W1 W).mono ?_
  rintro e w' ⟨rfl, rfl⟩
  cases h1 : inB m.tp 2 3 with
  | false =>
    have HE : Hid (K = false) := by unfold Hid; rw [← HK.out, multiOk, h1]; simp
    clear h1
    go_wp2
    go_ret
    exact ⟨by rw [HE.out]; rfl, hX⟩
  | true =>
    have H1 := Lib.hid h1
    clear h1
    go_wp2_with fail
    refine (W2 W).mono ?_
    rintro e w' ⟨rfl, rfl⟩
    cases h2 : inB m.sy 2 3 with
    | false =>
      have HE : Hid (K = false) := by unfold Hid; rw [← HK.out, multiOk, h2]; simp
      clear h2
      go_wp2
      go_ret
      exact ⟨by rw [HE.out]; rfl, hX⟩
    | true =>
      have H2 := Lib.hid h2
      clear h2
      go_wp2_with fail
      refine (W3 W).mono ?_
      rintro e w' ⟨rfl, rfl⟩
      cases h3 : inB m.st 1 16 with
      | false =>
        have HE : Hid (K = false) := by unfold Hid; rw [← HK.out, multiOk, h3]; simp
        clear h3
        go_wp2
        go_ret
        exact ⟨by rw [HE.out]; rfl, hX⟩
      | true =>
        have H3 := Lib.hid h3
        clear h3
        by_cases h4 : m.rules.length ≤ 60
        · have i4 : ¬ (60 : Int) < (m.rules.length : Int) := by omega
          obtain ⟨t1, t2⟩ := inB_iff.1 H1.out
          obtain ⟨s1, s2⟩ := inB_iff.1 H2.out
          obtain ⟨q1, q2⟩ := inB_iff.1 H3.out
          clear W1 W2 W3
          go_wp2
          go_loopw [30] (fun i wr => ∃ k : Nat, k ≤ m.rules.length ∧ i = .int .i64 (k : Int) ∧ Ext W wr ∧ (∀ j, j < k → mstepOk m j = true)) (fun i _ => m.rules.length - (intOf i).toNat)
          case atStart => exact ⟨0, Nat.zero_le _, rfl, Ext.refl _, fun j hj => by omega⟩
          case round =>
            obtain ⟨k, hk, rfl, hx, hok⟩ := hrel
            have HOK := Lib.hid hok
            clear hok
            by_cases hlt : k < m.rules.length
            · have hrr := hr.ext (hX.trans hx)
              obtain ⟨b, off, vr, vw, vm, rfl, c0, c1, c2, c3, c4, j1, j2, j3⟩ := hrr.at hlt
              have hgd : m.rules.getD k mr0 = m.rules[k] := by rw [List.getD_eq_getElem?_getD, List.getElem?_eq_getElem hlt]; rfl
              obtain ⟨r, hrk⟩ : ∃ r, m.rules[k] = r := ⟨_, rfl⟩
              rw [hrk] at c0 c4 j1 j2 j3 hgd
              obtain ⟨A1, k1, rfl, _, _⟩ := j1.form
              obtain ⟨A2, k2, rfl, _, _⟩ := j2.form
              obtain ⟨A3, k3, rfl, _, _⟩ := j3.form
              obtain ⟨V, hV⟩ : ∃ V, wr.alloc (.cells #[.int .i64 r.st, .slice A1 r.rd.length k1, .slice A2 r.wr.length k2, .slice A3 r.mv.length k3, .int .i64 r.nx] 64) = V := ⟨_, rfl⟩
              have hXV : Ext wr V := by rw [← hV]; exact Ext.alloc _ _
              have bV : Blk V wr.heap.size 64 #[.int .i64 r.st, .slice A1 r.rd.length k1, .slice A2 r.wr.length k2, .slice A3 r.mv.length k3, .int .i64 r.nx] := by rw [← hV]; exact Blk.new _ _ _ _ rfl
              obtain ⟨g, hg⟩ : ∃ g, wr.heap.size = g := ⟨_, rfl⟩
              rw [hg] at bV
              have hM : MRul V (.agg #[.int .i64 r.st, .slice A1 r.rd.length k1, .slice A2 r.wr.length k2, .slice A3 r.mv.length k3, .int .i64 r.nx]) r := ⟨_, _, _, rfl, j1.ext hXV, j2.ext hXV, j3.ext hXV⟩
              have VR := fun d os => validMultiRule_c (.slice (some ⟨b, off, none⟩) m.rules.length c) _ m r (Sort.grow (redrawn V d) os) (hM.ext (below_regrown V d os)) t1 t2 s1 s2 q1 q2
              have bMV := (bM.ext hx).ext hXV
              have d0 := cellR (bMV.cell 0)
              have d1 := cellR (bMV.cell 1)
              have d2 := cellR (bMV.cell 2)
              have d3 := cellR (bMV.cell 3)
              have f0 := cellR (bV.cell 0)
              have f1 := cellR (bV.cell 1)
              have f2 := cellR (bV.cell 2)
              have f3 := cellR (bV.cell 3)
              have f4 := cellR (bV.cell 4)
              try simp only [List.getElem?_toArray, List.getElem?_cons_zero, List.getElem?_cons_succ] at d0 d1 d2 d3 f0 f1 f2 f3 f4
              cases hv : mruleOk m r with
              | false =>
                have HE : Hid (K = false) := by unfold Hid; rw [← HK.out]; exact multi_no hlt (by rw [mstepOk, hgd, hv]; rfl)
                rw [hv] at VR
                clear hv hrk
                go_wp2_with fail
                try rw [hV]
                clear hV
                refine wp_region_ext (by kernel_rfl) (by kernel_rfl) ?_
                repeat (go_big_quiet_step ((go_at_call 61; exact Calls.extR (VR _ _))))
                refine wpQuiet_nil ?_
                intro w2 hx2
                go_wp2
                go_ret
                exact ⟨by rw [HE.out]; rfl, ((hX.trans hx).trans hXV).trans hx2⟩
              | true =>
                rw [hv] at VR
                by_cases hk0 : k = 0
                · subst hk0
                  have HS : Hid (∀ j, j < 0 + 1 → mstepOk m j = true) := Lib.hid (fun j hj => by
                    have e : j = 0 := by omega
                    subst e
                    exact mstep_first m (by rw [hgd]; exact hv))
                  rw [show ((0 : Nat) : Int) = 0 from rfl]
                  simp only [Nat.zero_mul, Nat.add_zero] at c0 c1 c2 c3 c4
                  clear hv hrk
                  go_wp2_with fail
                  try rw [hV]
                  clear hV
                  refine wp_region_ext (by kernel_rfl) (by kernel_rfl) ?_
                  repeat (go_big_quiet_step ((go_at_call 61; exact Calls.extR (VR _ _))))
                  refine wpQuiet_nil ?_
                  intro w2 hx2
                  go_wp2
                  go_roundw
                  case rel => exact ⟨0 + 1, by omega, by go_num, (hx.trans hXV).trans hx2, HS.out⟩
                  case measure => simp [intOf]; omega
                · have hk1 : k - 1 < m.rules.length := by omega
                  obtain ⟨b', off', ur, uw, um, e', p0, p1, p2, p3, p4, l1, l2, l3⟩ := hrr.at hk1
                  cases e'
                  have hgd' : m.rules.getD (k - 1) mr0 = m.rules[k - 1] := by rw [List.getD_eq_getElem?_getD, List.getElem?_eq_getElem hk1]; rfl
                  obtain ⟨s, hsk⟩ : ∃ s, m.rules[k - 1] = s := ⟨_, rfl⟩
                  rw [hsk] at p0 p4 l1 l2 l3 hgd'
                  have hN : MRul V (.agg #[.int .i64 s.st, ur, uw, um, .int .i64 s.nx]) s := ⟨_, _, _, rfl, l1.ext hXV, l2.ext hXV, l3.ext hXV⟩
                  have CM := fun d os => compareMultiRules_c _ _ s r (Sort.grow (redrawn V d) os) (hN.ext (below_regrown V d os)) (hM.ext (below_regrown V d os))
                  obtain ⟨B1, l1', rfl, _, _⟩ := l1.form
                  obtain ⟨B2, l2', rfl, _, _⟩ := l2.form
                  obtain ⟨B3, l3', rfl, _, _⟩ := l3.form
                  have p0 := cellR (hXV.cell p0)
                  have p1 := cellR (hXV.cell p1)
                  have p2 := cellR (hXV.cell p2)
                  have p3 := cellR (hXV.cell p3)
                  have p4 := cellR (hXV.cell p4)
                  have i0 : 0 < k := by omega
                  have i00 : decide (0 < k) = true := decide_eq_true i0
                  have i1 : (0 : Int) < (k : Int) := by omega
                  have iw : IntKind.i64.wrap ((k : Int) - 1) = (k : Int) - 1 := IntWalk.i64_in _ (by omega)
                  have i2 : (0 : Int) ≤ (k : Int) - 1 := by omega
                  have i3 : (k : Int) - 1 < (m.rules.length : Int) := by omega
                  have i4' : ((k : Int) - 1).toNat = k - 1 := by omega
                  have hms : mstepOk m k = decide (cmpM s r < 0) := by unfold mstepOk; rw [hgd, hgd', hv, decide_eq_false hk0]; simp
                  have HMS := Lib.hid hms
                  obtain ⟨z, hz⟩ : ∃ z, cmpM s r = z := ⟨_, rfl⟩
                  rw [hz] at CM HMS
                  clear hv hrk hsk hz hgd hgd' hms l1 l2 l3 j1 j2 j3 hM hN
                  by_cases hz0 : z < 0
                  · have i5 : ¬ (0 : Int) ≤ z := by omega
                    have HS : Hid (∀ j, j < k + 1 → mstepOk m j = true) := Lib.hid (fun j hj => by
                      by_cases e : j = k
                      · rw [e, HMS.out]; exact decide_eq_true hz0
                      · exact HOK.out j (by omega))
                    go_wp2_with fail
                    try rw [hV]
                    clear hV
                    refine wp_region_ext (by kernel_rfl) (by kernel_rfl) ?_
                    repeat (go_big_quiet_step ((first | (go_at_call 61; exact Calls.extR (VR _ _)) | (go_at_call 62; exact Calls.extR (CM _ _)))))
                    refine wpQuiet_nil ?_
                    intro w2 hx2
                    go_wp2
                    go_roundw
                    case rel => exact ⟨k + 1, by omega, by go_num, (hx.trans hXV).trans hx2, HS.out⟩
                    case measure => simp [intOf]; omega
                  · have i5 : (0 : Int) ≤ z := by omega
                    have HE : Hid (K = false) := by unfold Hid; rw [← HK.out]; exact multi_no hlt (by rw [HMS.out]; exact decide_eq_false hz0)
                    go_wp2_with fail
                    try rw [hV]
                    clear hV
                    refine wp_region_ext (by kernel_rfl) (by kernel_rfl) ?_
                    repeat (go_big_quiet_step ((first | (go_at_call 61; exact Calls.extR (VR _ _)) | (go_at_call 62; exact Calls.extR (CM _ _)))))
                    refine wpQuiet_nil ?_
                    intro w2 hx2
                    go_wp2
                    go_ret
                    exact ⟨by rw [HE.out]; rfl, ((hX.trans hx).trans hXV).trans hx2⟩
            · have hke : k = m.rules.length := by omega
              have HE : Hid (K = true) := by
                unfold Hid
                rw [← HK.out]
                simp only [multiOk, H1.out, H2.out, H3.out, Bool.and_eq_true, decide_eq_true_eq, List.all_eq_true, List.mem_range]
                exact ⟨⟨⟨⟨trivial, trivial⟩, trivial⟩, h4⟩, fun j hj => HOK.out j (by omega)⟩
              go_wp2
              go_ret
              exact ⟨by rw [HE.out]; rfl, hX.trans hx⟩
        · have i4 : (60 : Int) < (m.rules.length : Int) := by omega
          have HE : Hid (K = false) := by unfold Hid; rw [← HK.out, multiOk, decide_eq_false h4]; simp
          go_wp2
          go_ret
          exact ⟨by rw [HE.out]; rfl, hX⟩
end Go.Proofs.YtkbpchdncljlbaaGreatDoor
end
section
set_option linter.unusedVariables false
set_option linter.unusedSimpArgs false
namespace Go.Proofs.YtkbpchdncljlbaaGreatDoor
open Go Go.RowKit Go.Proofs Go.Maps
set_option maxHeartbeats 400000
theorem laidOutM : laidOutB Tryz.prog = true := by kernel_rfl
theorem rdTy : MapTy Tryz.prog 78 82 2 where
  keyed := Keyed.of_law (deep_law_laid laidOutM (m := 4) (by omega) (by decide +kernel) (by kernel_rfl) (by kernel_rfl))
  und := Tryz.underlying78
  el := Tryz.underlying2
  zero w := by kernel_rfl
/-- What is read, as a value. -/
def rdE (x : KeyM) : Value := .agg #[.int .i64 x.1, .int .i64 x.2.1, .int .i64 x.2.2.1, .int .i64 x.2.2.2]
theorem rdE_inj (x y : KeyM) (h : rdE x = rdE y) : x = y := by
  obtain ⟨a, b, c, d⟩ := x
  obtain ⟨a', b', c', d'⟩ := y
  simp [rdE] at h
  obtain ⟨rfl, rfl, rfl, rfl⟩ := h
  rfl
def smallZ (z : Int) : Prop := -1000000 ≤ z ∧ z ≤ 1000000
theorem smallZ_wf {z : Int} (h : smallZ z) : (Lit.int .i64 z).wf = true := by
  obtain ⟨_, _⟩ := h
  simp [Lit.wf, IntKind.min, IntKind.max, IntKind.signed, IntKind.bits]
  omega
theorem rdKey (x : KeyM) (h1 : smallZ x.1) (h2 : smallZ x.2.1) (h3 : smallZ x.2.2.1) (h4 : smallZ x.2.2.2) : ∃ l, keyOf Tryz.prog 82 (rdE x) = some l := by
  have w1 := smallZ_wf h1
  have w2 := smallZ_wf h2
  have w3 := smallZ_wf h3
  have w4 := smallZ_wf h4
  have c4 : Tryz.prog.cellsOf 82 = 4 := by kernel_rfl
  have c3 : Tryz.prog.cellsOf 80 = 3 := by kernel_rfl
  have c1 : Tryz.prog.cellsOf 2 = 1 := by kernel_rfl
  have kt : Tryz.prog.keyType 82 = true := by kernel_rfl
  obtain ⟨d, hd⟩ : ∃ d, Tryz.prog.types.size = d + 2 := ⟨Tryz.prog.types.size - 2, by decide +kernel⟩
  have hf : (rdE x).formed Tryz.prog 82 = true := by simp [Value.formed, rdE, Tryz.underlying82, c4]
  have hK : Tryz.prog.keyLits (Tryz.prog.types.size + 1) 82 (rdE x).cells.toList = some [.int .i64 x.1, .int .i64 x.2.1, .int .i64 x.2.2.1, .int .i64 x.2.2.2] := by
    rw [hd]
    simp [Program.keyLits, rdE, Value.cells, Tryz.underlying82, Tryz.underlying80, Tryz.underlying2, c4, c3, c1, w1, w2, w3, w4, show List.range 3 = [0, 1, 2] from rfl]
  unfold keyOf
  rw [Tryz.underlying82]
  simp only [kt, hf, Bool.and_self, if_true, hK]
  exact ⟨_, rfl⟩
theorem rd2 {xs : List Int} (h : (xs.length : Int) = 2 ∨ (xs.length : Int) = 3) : (∃ a b, xs = [a, b]) ∨ ∃ a b c, xs = [a, b, c] := by
  match xs, h with
  | [a, b], _ => exact .inl ⟨a, b, rfl⟩
  | [a, b, c], _ => exact .inr ⟨a, b, c, rfl⟩
  | [], h => simp at h
  | [_], h => simp at h
  | _ :: _ :: _ :: _ :: l, h => simp at h; omega
/-- What the copying of a rule's symbols leaves. -/
theorem copy_read {w : World} {b g off c : Nat} {q : Int} {xs : List Int} (hb : Blk w b 82 #[.int .i64 q, .int .i64 0, .int .i64 0, .int .i64 0]) (h : Ints w (.slice (some ⟨g, off, none⟩) xs.length c) xs) (hx : (xs.length : Int) = 2 ∨ (xs.length : Int) = 3) :
    ∃ w' n, (Builtin.copy_ #[48, 48] 3 #[.slice (some ⟨b, 1, none⟩) 3 3, .slice (some ⟨g, off, none⟩) xs.length c]).run Tryz.prog w = .ok n w' ∧
      Blk w' b 82 #[.int .i64 (key3 q xs).1, .int .i64 (key3 q xs).2.1, .int .i64 (key3 q xs).2.2.1, .int .i64 (key3 q xs).2.2.2] ∧ w.grownBy w' (some b) := by
  have hcell : ∀ j v, (ivs xs)[j]? = some v → w.cell? ((⟨g, off, none⟩ : Addr).add j) = some v := by
    intro j y hj
    obtain ⟨hl, _⟩ := List.getElem?_eq_some_iff.1 hj
    rw [ivs_length] at hl
    obtain ⟨b', off', e', hc⟩ := h.at hl
    cases e'
    have e : y = .int .i64 xs[j] := by
      have := ivs_get xs j hl
      rw [hj] at this
      injection this
    have := hc j hl
    rw [e]
    by_cases hj0 : j = 0
    · subst hj0
      first | (simp [Addr.add]; done) | (simpa [Addr.add] using this)
    · first | (simp [Addr.add, hj0]; done) | (simpa [Addr.add, hj0] using this)
  have hone : ∀ v ∈ ivs xs, v.oneCell' = true := by
    intro u hu
    obtain ⟨z, _, rfl⟩ := List.mem_map.1 hu
    rfl
  have hr := run_copy_row (P := Tryz.prog) w 48 48 3 2 b 1 3 3 ⟨g, off, none⟩ xs.length c #[.int .i64 q, .int .i64 0, .int .i64 0, .int .i64 0] 82 (ivs xs) Tryz.underlying48 (by kernel_rfl) hb
    (by rw [ivs_length]; rcases hx with e | e <;> simp [Nat.min_def] <;> omega) hcell (by rw [ivs_length]; rcases hx with e | e <;> simp <;> omega) hone
  refine ⟨_, _, hr, ?_, ?_⟩
  · have hh := setRow_heap w b #[.int .i64 q, .int .i64 0, .int .i64 0, .int .i64 0] ((#[Value.int .i64 q, .int .i64 0, .int .i64 0, .int .i64 0] : Array Value).toList.take 1 ++ ivs xs ++ (#[Value.int .i64 q, .int .i64 0, .int .i64 0, .int .i64 0] : Array Value).toList.drop (1 + (ivs xs).length)).toArray 82 (0, 0) hb
    unfold Blk
    rw [hh]
    rcases rd2 hx with ⟨a, b, rfl⟩ | ⟨a, b, c, rfl⟩ <;> rfl
  · refine ⟨rfl, rfl, rfl, by simp [World.setRow], fun k _ hk => ?_⟩
    have : b ≠ k := fun e => hk (by rw [e])
    simp [World.setRow, Array.getElem?_modify, this]
theorem key3_small {m : MultiD} {r : MRuleD} (h : mruleOk m r = true) (q2 : m.st ≤ 16) (s2 : m.sy ≤ 3) : smallZ (key3 r.st r.rd).1 ∧ smallZ (key3 r.st r.rd).2.1 ∧ smallZ (key3 r.st r.rd).2.2.1 ∧ smallZ (key3 r.st r.rd).2.2.2 := by
  obtain ⟨h1, _, _, _, _, h6, _⟩ := mrule_all h
  have key : ∀ i, smallZ (r.rd.getD i 0) := fun i => by
    by_cases hi : i < r.rd.length
    · have := h6 _ (List.getElem_mem hi)
      rw [List.getD_eq_getElem?_getD, List.getElem?_eq_getElem hi]
      show smallZ r.rd[i]
      unfold smallZ
      omega
    · rw [List.getD_eq_getElem?_getD, List.getElem?_eq_none (by omega)]
      show smallZ 0
      unfold smallZ
      omega
  exact ⟨by show smallZ r.st; unfold smallZ; omega, key 0, key 1, key 2⟩
/-- The table behind the first k rules. -/
def tblM (rs : List MRuleD) (k : Nat) (x : KeyM) : Option Int := Option.map (fun i : Nat => (i : Int)) (findM rs x k)
theorem tblM_succ (rs : List MRuleD) (k : Nat) : (fun x => if x = key3 (rs.getD k mr0).st (rs.getD k mr0).rd then some (k : Int) else tblM rs k x) = tblM rs (k + 1) := by
  funext x
  show _ = Option.map (fun i : Nat => (i : Int)) (if key3 (rs.getD k mr0).st (rs.getD k mr0).rd = x then some k else findM rs x k)
  by_cases e : x = key3 (rs.getD k mr0).st (rs.getD k mr0).rd
  · rw [if_pos e, if_pos e.symm]; rfl
  · rw [if_neg e, if_neg (fun h => e h.symm)]; rfl
set_option maxRecDepth 20000 in
set_option maxHeartbeats 4000000 in
theorem multiRules_c (v : Value) (m : MultiD) (w : World) (h : Mult w v m) (hm : multiOk m = true) :
    Calls Tryz.prog 39 #[v] w fun e w' => ∃ bm, e = .returned (.map (some bm)) ∧ Tbl Tryz.prog 82 2 rdE w' bm m.rules.length (tblM m.rules m.rules.length) ∧ w.heap.size ≤ bm ∧ Ext w w' := by
  obtain ⟨rv, rfl, hr⟩ := h
  obtain ⟨A, c, rfl, hc1, hc2⟩ := hr.form
  obtain ⟨⟨t1, t2⟩, ⟨s1, s2⟩, ⟨q1, q2⟩, hln, _⟩ := multi_all hm
  obtain ⟨W, hW⟩ : ∃ W, W = (w.alloc (.cells #[.int .i64 m.tp, .int .i64 m.sy, .int .i64 m.st, .slice A m.rules.length c] 26)).alloc (.map #[] 0) := ⟨_, rfl⟩
  have hX : Ext w W := by rw [hW]; exact (Ext.alloc _ _).trans (Ext.alloc _ _)
  have bM : Blk W w.heap.size 26 #[.int .i64 m.tp, .int .i64 m.sy, .int .i64 m.st, .slice A m.rules.length c] := by rw [hW]; exact (Blk.new _ _ _ _ rfl).alloc _
  have hT0 : Tbl Tryz.prog 82 2 rdE W (w.heap.size + 1) 0 (tblM m.rules 0) := by
    rw [hW]
    have := Tbl.made Tryz.prog 82 2 rdE (w.alloc (.cells #[.int .i64 m.tp, .int .i64 m.sy, .int .i64 m.st, .slice A m.rules.length c] 26))
    have e : tblM m.rules 0 = fun _ => none := by funext x; rfl
    rw [e]
    simpa using this
  obtain ⟨k0, hk0⟩ : ∃ k, w.heap.size = k := ⟨_, rfl⟩
  rw [hk0] at bM hT0
  have HM := Lib.hid hm
  have m3 := bM.cell 3
  simp only [List.getElem?_toArray, List.getElem?_cons_zero, List.getElem?_cons_succ] at m3
  clear hm
  go_enter Tryz.func39, Tryz.ntmps39
  have hmm := @run_makeMap Tryz.prog
  go_wp2_with fail
  try rw [← hW]
  clear hW hmm m3
  go_loopw [11] (fun i wr => ∃ k : Nat, k ≤ m.rules.length ∧ i = .int .i64 (k : Int) ∧ Ext w wr ∧ Blk wr k0 26 #[.int .i64 m.tp, .int .i64 m.sy, .int .i64 m.st, .slice A m.rules.length c] ∧ Tbl Tryz.prog 82 2 rdE wr (k0 + 1) k (tblM m.rules k)) (fun i _ => m.rules.length - (intOf i).toNat)
  case atStart => exact ⟨0, Nat.zero_le _, rfl, hX, bM, hT0⟩
  case round =>
    clear hT0 bM hX
    obtain ⟨k, hk, rfl, hx, bM, hT⟩ := hrel
    by_cases hlt : k < m.rules.length
    · have hrr := hr.ext hx
      obtain ⟨b, off, vr, vw, vm, rfl, c0, c1, c2, c3, c4, j1, j2, j3⟩ := hrr.at hlt
      have hgd : m.rules.getD k mr0 = m.rules[k] := by rw [List.getD_eq_getElem?_getD, List.getElem?_eq_getElem hlt]; rfl
      have hro := multi_rule HM.out hlt
      have HTS := Lib.hid (tblM_succ m.rules k)
      obtain ⟨r, hrk⟩ : ∃ r, m.rules[k] = r := ⟨_, rfl⟩
      rw [hrk] at c0 c4 j1 j2 j3 hgd hro
      rw [hgd] at HTS
      have hlr : (r.rd.length : Int) = 2 ∨ (r.rd.length : Int) = 3 := by have := (mrule_all hro).2.2.1; omega
      have hks := key3_small hro q2 s2
      obtain ⟨A1, k1, rfl, _, _⟩ := j1.form
      obtain ⟨A2, k2, rfl, _, _⟩ := j2.form
      obtain ⟨A3, k3, rfl, _, _⟩ := j3.form
      obtain ⟨ga, oa, rfl, _⟩ := j1.at (k := 0) (by omega)
      obtain ⟨V, hV⟩ : ∃ V, V = (wr.alloc (.cells #[.int .i64 r.st, .slice (some ⟨ga, oa, none⟩) r.rd.length k1, .slice A2 r.wr.length k2, .slice A3 r.mv.length k3, .int .i64 r.nx] 64)).alloc (.cells #[.int .i64 r.st, .int .i64 0, .int .i64 0, .int .i64 0] 82) := ⟨_, rfl⟩
      have hXV : Ext wr V := by rw [hV]; exact (Ext.alloc _ _).trans (Ext.alloc _ _)
      obtain ⟨g, hg⟩ : ∃ g, wr.heap.size = g := ⟨_, rfl⟩
      have bR : Blk V g 64 #[.int .i64 r.st, .slice (some ⟨ga, oa, none⟩) r.rd.length k1, .slice A2 r.wr.length k2, .slice A3 r.mv.length k3, .int .i64 r.nx] := by rw [hV]; exact (Blk.new _ _ _ _ hg).alloc _
      have bX : Blk V (g + 1) 82 #[.int .i64 r.st, .int .i64 0, .int .i64 0, .int .i64 0] := by rw [hV]; exact Blk.new _ _ _ _ (by simp [hg])
      have hXd := hXV.trans (Ext.drew V)
      have hgl : k0 + 1 < g := by rw [← hg]; exact hT.lt
      have x1 := bR.drew.cell 1
      simp only [List.getElem?_toArray, List.getElem?_cons_zero, List.getElem?_cons_succ] at x1
      clear hrk hro
      go_wp2_with fail
      try rw [← hV]
      clear hV
      refine wp_region_ordT 4 (readsT [0, 1, 2, 3] .done) (by kernel_rfl) (by kernel_rfl) (fun _ _ _ _ _ h => h) ?_
      simp only [readsT]
      iterate 4 (refine wpOrdT_read (v := ?_) (by rfl) (Or.inl ⟨by rfl, fun x hx => ?_⟩) ?_; rotate_left; (· have a1 := hx.cell x1; go_simp; try with_reducible rfl); try simp only [Act.put, List.setIfInBounds_toArray, List.set_cons_zero, List.set_cons_succ])
      refine wpOrdT_done ?_
      try simp only [List.drop_succ_cons, List.drop_zero]
      have bXd := bX.drew
      have jd := j1.ext hXd
      have hTd := hT.ext hXd
      have bMd := bM.ext hXd
      have hxd := hx.trans hXd
      clear bX bR hXV x1 j1 j2 j3 hT bM c0 c1 c2 c3 c4
      generalize V.drew = X at *
      obtain ⟨w3, n3, hcp, bX3, hg3⟩ := copy_read bXd jd hlr
      have hT3 := hTd.kept hg3 (by simp; omega)
      have bM3 := bMd.kept hg3 (by simp; omega)
      have hX3 := hxd.grown hg3 (fun b hb => by injection hb with hb; omega)
      obtain ⟨y, hy⟩ : ∃ y, key3 r.st r.rd = y := ⟨_, rfl⟩
      rw [hy] at bX3 HTS hks
      obtain ⟨w4, hup, hT4, hg4⟩ := hT3.update rdTy rdE_inj (by unfold maxLen; omega) y (rdKey y hks.1 hks.2.1 hks.2.2.1 hks.2.2.2) (k : Int) (smallZ_wf (by unfold smallZ; omega))
      rw [HTS.out] at hT4
      have bM4 := bM3.kept hg4 (by simp)
      have hX4 := hX3.grown hg4 (fun b hb => by injection hb with hb; omega)
      have b0 := bX3.cell 0
      have b1 := bX3.cell 1
      have b2 := bX3.cell 2
      have b3 := bX3.cell 3
      simp only [List.getElem?_toArray, List.getElem?_cons_zero, List.getElem?_cons_succ] at b0 b1 b2 b3
      simp only [rdE] at hup
      clear hy hks jd bXd hTd bMd hT3 bM3 hg3 hg4
      go_wp2_with (at_builtin; refine Lib.wpList_copy_run _ rfl _ _ 48 48 rfl _ _ rfl rfl hcp ?_)
      go_wp2
      go_roundw
      case rel => exact ⟨k + 1, by omega, by go_num, hX4, bM4, hT4⟩
      case measure => simp [intOf]; omega
    · obtain rfl : k = m.rules.length := by omega
      go_wp2
      go_ret
      exact ⟨_, rfl, hT, by omega, hx⟩
end Go.Proofs.YtkbpchdncljlbaaGreatDoor
end
