/- The program's check of a shift accepts one. -/
import Derived.Test.YtpdnmhhieokogaaShF
import Derived.Test.YtpdnmhhieokogaaPrfO
import Derived.Deep.RegionHeld3
set_option linter.unusedSimpArgs false
set_option linter.unusedVariables false
namespace Go.Proofs.Ytpdnmhhieokogaa
open Go Go.RowKit Go.Proofs
set_option maxHeartbeats 400000
theorem intRows_nil (w : World) : IntRows w (.slice none 0 0) [] := ⟨[], ⟨none, 0, rfl, Nat.le_refl _, by omega, rfl, fun h => absurd h (by simp)⟩, fun i h => absurd h (by simp)⟩
theorem confMk {w : World} {lv rv : Value} {c : ConfD} (h1 : Ints w lv c.l) (h2 : Ints w rv c.r) : Conf w (.agg #[.int .i64 c.q, lv, rv]) c := ⟨_, _, rfl, h1, h2⟩
theorem pOf_shift {m : MachD} (hm : machOk m = true) (a b d : Int) (ha : -20000 ≤ a ∧ a ≤ 20000) (hb : -20000 ≤ b ∧ b ≤ 20000) (hd : -20000 ≤ d ∧ d ≤ 20000) : pOfB m ⟨3, [a, b, d], []⟩ 3 3 = true := by
  simp [pOfB, hm, prfOk, inB]
  omega
theorem Shift.bound {m : MachD} (hm : machOk m = true) {a b : Nat} {d : Int} (h : Shift m a b d) : -((a + b : Nat) : Int) - a ≤ d ∧ d ≤ ((a + b : Nat) : Int) + a := by
  have h1 := pos_bound hm (blank_good hm) (a + b) h.runs.no
  have h2 := pos_bound hm (blank_good hm) a (fun i hi => h.runs.no i (by omega))
  have := h.dist
  omega
theorem EndAt.exact {m : MachD} {c : ConfD} {N i : Nat} (h : EndAt m c N i) (hr : RunsTo m c N) : i = N := by
  rcases h.stop with e | e
  · exact e
  · by_cases hlt : i < N
    · exact absurd e (hr.no i hlt)
    · have := h.le; omega
theorem FullAt.never {m : MachD} {c : ConfD} {N i : Nat} (h : FullAt m c N i) (hr : RunsTo m c N) : False := by
  have h1 := h.full
  have h2 := hr.fit i h.le
  rw [h1] at h2
  exact absurd h2 (by decide)
theorem RunsTo.less {m : MachD} {c : ConfD} {n k : Nat} (h : RunsTo m c n) (hk : k ≤ n) : RunsTo m c k := ⟨fun i hi => h.no i (by omega), fun i hi => h.fit i (by omega)⟩
set_option maxRecDepth 20000 in
set_option maxHeartbeats 4000000 in
theorem CheckShift_c (w : World) (m : MachD) (mv nv : Value) (a b : Nat) (d : Int) (hr : Rules w mv m.rules) (hm : machOk m = true) (hn : Ints w nv [(a : Int), (b : Int), d]) (hab : a + b ≤ 5000) (hS : Shift m a b d) :
    Calls Try.prog 7 #[.agg #[.int .i64 m.sy, .int .i64 m.st, mv], .agg #[.int .i64 3, nv, .slice none 0 0]] w fun e w' => e = .returned (.bool true) ∧ Ext w w' := by
  obtain ⟨Am, cm, rfl, _, _⟩ := id hr.form
  obtain ⟨An, cn, rfl, _, _⟩ := id hn.form
  obtain ⟨gn, on, rfl, hcn⟩ := hn.at (k := 0) (by simp)
  have n0 := hcn 0 (by simp)
  have n1 := hcn 1 (by simp)
  have n2 := hcn 2 (by simp)
  simp only [List.getElem_cons_zero, List.getElem_cons_succ, Nat.add_zero, List.length_cons, List.length_nil, Nat.zero_add, Nat.reduceAdd] at n0 n1 n2
  simp only [List.length_cons, List.length_nil, Nat.zero_add, Nat.reduceAdd] at hn ⊢
  have hbd := hS.bound hm
  obtain ⟨W, hW⟩ : ∃ W, W = (w.alloc (.cells #[.int .i64 m.sy, .int .i64 m.st, .slice Am m.rules.length cm] 26)).alloc (.cells #[.int .i64 3, .slice (some ⟨gn, on, none⟩) 3 cn, .slice none 0 0] 31) := ⟨_, rfl⟩
  have hX : Ext w W := by rw [hW]; exact (Ext.alloc _ _).trans (Ext.alloc _ _)
  have bM : Blk W w.heap.size 26 #[.int .i64 m.sy, .int .i64 m.st, .slice Am m.rules.length cm] := by rw [hW]; exact (Blk.new _ _ _ _ rfl).alloc _
  have bP : Blk W (w.heap.size + 1) 31 #[.int .i64 3, .slice (some ⟨gn, on, none⟩) 3 cn, .slice none 0 0] := by rw [hW]; exact Blk.new _ _ _ _ (by simp)
  have m0 := bM.cell 0
  have m1 := bM.cell 1
  have m2 := bM.cell 2
  have p0 := bP.cell 0
  have p1 := bP.cell 1
  have p2 := bP.cell 2
  simp only [List.getElem?_toArray, List.getElem?_cons_zero, List.getElem?_cons_succ] at m0 m1 m2 p0 p1 p2
  have n0W := hX.cell n0
  have n1W := hX.cell n1
  have n2W := hX.cell n2
  have pof : QCall 16 #[.agg #[.int .i64 m.sy, .int .i64 m.st, .slice Am m.rules.length cm], .agg #[.int .i64 3, .slice (some ⟨gn, on, none⟩) 3 cn, .slice none 0 0], .int .i64 3, .int .i64 3] W (.bool true) := fun d' os => Calls.extR (by
    have := proofOf_c _ _ m ⟨3, [(a : Int), (b : Int), d], []⟩ 3 3 (Sort.grow (redrawn W d') os) ⟨_, rfl, (hr.ext hX).ext (below_regrown _ _ _)⟩ ⟨_, _, rfl, (hn.ext hX).ext (below_regrown _ _ _), (intRows_nil _)⟩
    rw [pOf_shift hm _ _ _ (by omega) (by omega) (by omega)] at this
    exact this)
  have spo : QCall 17 #[.int .i64 a, .int .i64 b] W (.bool true) := fun d' os => Calls.sameR (by
    have := spanOk_c (a : Int) (b : Int) (Sort.grow (redrawn W d') os) (by omega)
    have hb1 := hS.b1
    have e1 : (decide ((0 : Int) ≤ (a : Int)) && decide ((1 : Int) ≤ (b : Int)) && decide ((a : Int) ≤ 20000) && decide ((b : Int) ≤ 20000 - (a : Int))) = true := by simp; omega
    rw [e1] at this
    exact this)
  have hd0 : (d == 0) = false := by simpa using hS.d0
  have HM := Lib.hid hm
  have HR := Lib.hid (hr.ext hX)
  have HS := Lib.hid hS
  have HX := Lib.hid hX
  have HBD := Lib.hid hbd
  clear hm hr hS hcn hn n0 n1 n2 hbd hX
  have q1 := cellR p1
  have q0 := cellR p0
  have q2 := cellR p2
  have r0 := cellR m0
  have r1 := cellR m1
  have r2 := cellR m2
  have k0 := cellR n0W
  have k1 := cellR n1W
  have k2 := cellR n2W
  go_enter Try.func7, Try.ntmps7
  go_wp2_with fail
  rw [← hW]
  clear hW
  refine wp_region_ext (by kernel_rfl) (by kernel_rfl) ?_
  repeat (go_big_quiet_step ((first | (go_at_call 16; with_reducible exact pof _ _) | (go_at_call 17; with_reducible exact spo _ _))))
  refine wpQuiet_nil ?_
  intro w2 hx2
  clear q0 q1 q2 r0 r1 r2 k0 k1 k2 pof spo
  replace m0 := hx2.cell m0
  replace m1 := hx2.cell m1
  replace m2 := hx2.cell m2
  replace p1 := hx2.cell p1
  replace n0W := hx2.cell n0W
  replace n1W := hx2.cell n1W
  replace n2W := hx2.cell n2W
  clear p0 p2 bP
  have bM2 := bM.ext hx2
  clear bM
  have q1 := cellR p1
  have k0 := cellR n0W
  have k1 := cellR n1W
  have k2 := cellR n2W
  go_wp2_with fail
  refine wp_region_ext (by kernel_rfl) (by kernel_rfl) ?_
  repeat (go_big_quiet_step (fail))
  refine wpQuiet_nil ?_
  intro w3 hx3
  clear q1 k0 k1 k2 p1 n0W n1W n2W
  replace m0 := hx3.cell m0
  replace m1 := hx3.cell m1
  replace m2 := hx3.cell m2
  have bM3 := bM2.ext hx3
  clear bM2
  have HX3 := Lib.hid (hx2.trans hx3)
  go_wp2_with fail
  refine (afterSteps_c w3 m _ a (HR.out.ext HX3.out) HM.out (by omega)).mono ?_
  rintro e w4 ⟨b1, ⟨i1, l1, r1, hE1, rfl, hR1⟩ | ⟨⟨i1, hF1⟩, _⟩⟩
  · obtain rfl : i1 = a := hE1.exact (HS.out.runs.less (by omega))
    have hb1 : ((i1 : Int) == (i1 : Int)) = true := by simp
    rw [hb1]
    have hx4 := hR1.ext0
    replace m0 := hx4.cell m0
    replace m1 := hx4.cell m1
    replace m2 := hx4.cell m2
    clear hE1 hb1
    go_wp2_with fail
    refine (afterSteps_c w4 m _ (i1 + b) (HR.out.ext (HX3.out.trans hx4)) HM.out (by omega)).mono ?_
    rintro e w5 ⟨b2, ⟨i2, l2, r2, hE2, rfl, hR2⟩ | ⟨⟨i2, hF2⟩, _⟩⟩
    · obtain rfl : i2 = i1 + b := hE2.exact HS.out.runs
      have hb2 : (((i1 + b : Nat) : Int) == ((i1 + b : Nat) : Int)) = true := by simp
      rw [hb2]
      have hx5 := hR2.ext0
      have HR1' := Lib.hid (hR1.ext hx5)
      replace m0 := hx5.cell m0
      replace m1 := hx5.cell m1
      replace m2 := hx5.cell m2
      clear hE2 hb2 hR1
      go_wp2_with fail
      refine (tracked_c w5 m _ (i1 + b) (HR.out.ext ((HX3.out.trans hx4).trans hx5)) HM.out (by omega)).mono ?_
      rintro e w6 ⟨x, i3, rs, lo, hi, pv, qv, hT, hRS, hx6, hrl, ⟨hE3, rfl⟩ | ⟨hF3, rfl⟩⟩
      · obtain rfl : i3 = i1 + b := hE3.exact HS.out.runs
        obtain ⟨y, hy⟩ : ∃ y, decide (lookI m (cfgI m blankC (i1 + b)) = noR) = y := ⟨_, rfl⟩
        rw [hy]
        obtain ⟨Ap, cp, hpv, hcp, _⟩ := hT.pos.ints.form
        have hPI := hT.pos.ints
        rw [posM_len] at hpv hcp
        subst hpv
        have x0 := hT.blk.cell 0
        simp only [List.getElem?_toArray, List.getElem?_cons_zero] at x0
        have hlen : i1 < (posM m blankC (i1 + b + 1)).length := by rw [posM_len]; omega
        have hlen2 : i1 + b < (posM m blankC (i1 + b + 1)).length := by rw [posM_len]; omega
        have hPI2 : Ints w6 (.slice Ap (posM m blankC (i1 + b + 1)).length cp) (posM m blankC (i1 + b + 1)) := by rw [posM_len]; exact hPI
        obtain ⟨gp, op, rfl, hcc⟩ := hPI2.at hlen
        have c1 := hcc i1 hlen
        have c2 := hcc (i1 + b) hlen2
        have e1 : (posM m blankC (i1 + b + 1))[i1] = posI m blankC i1 := by simp [posM]
        have e2 : (posM m blankC (i1 + b + 1))[i1 + b] = posI m blankC (i1 + b) := by simp [posM]
        rw [e1] at c1
        rw [e2] at c2
        have HP := Lib.hid hPI
        have hdist := HS.out.dist
        have HB1 := Lib.hid (pos_bound HM.out (blank_good HM.out) (i1 + b) HS.out.runs.no)
        have HB2 := Lib.hid (pos_bound HM.out (blank_good HM.out) i1 (fun i hi => HS.out.runs.no i (by omega)))
        have HR2 := Lib.hid (hR2.ext hx6)
        have HR1'' := Lib.hid (HR1'.out.ext hx6)
        have hHX6 := Lib.hid ((HX3.out.trans hx4).trans (hx5.trans hx6))
        clear e1 e2 hcc hPI hPI2 hlen hlen2 hT hRS hrl hE3 hy hR2 m0 m1 m2 HR1'
        obtain ⟨zs, hzs⟩ : ∃ z, posI m blankC i1 = z := ⟨_, rfl⟩
        obtain ⟨ze, hze⟩ : ∃ z, posI m blankC (i1 + b) = z := ⟨_, rfl⟩
        have hb1 := HB1.out
        have hb2 := HB2.out
        rw [hzs] at c1 hdist hb2
        rw [hze] at c2 hdist hb1
        have hne : (ze - zs != d) = false := by simp [hdist]
        have htn : ((i1 : Int) + (b : Int)).toNat = i1 + b := by omega
        have hbnd : (i1 : Int) + (b : Int) < (i1 : Int) + (b : Int) + 1 := by omega
        have HDI := Lib.hid hdist
        clear hzs hze hdist
        have k1 := cellR c1
        have k2 := cellR c2
        have k0 := cellR x0
        go_wp2_with fail
        refine wp_region_ext (by kernel_rfl) (by kernel_rfl) ?_
        repeat (go_big_quiet_step (fail))
        refine wpQuiet_nil ?_
        intro w7 hx7
        clear k0 k1 k2 c1 c2
        replace x0 := hx7.cell x0
        go_wp2_with fail
        have hf1 := HS.out.runs.fit i1 (by omega)
        have hf2 := HS.out.runs.fit (i1 + b) (Nat.le_refl _)
        simp only [fitI, Bool.and_eq_true, decide_eq_true_eq] at hf1 hf2
        have hD := hx7.trans (Ext.drew w7)
        have cf1 := config_c w3 w7.drew b1 m (cfgI m blankC i1) _ l1 r1 (HR1''.out.ext hD) (by omega) (by omega)
        have cf2 : ∀ wA, Ext w7.drew wA → Calls Try.prog 20 #[.pointer (some ⟨b2, 0, none⟩)] wA (CfgRes wA (cfgI m blankC (i1 + b))) := fun wA hA => config_c w4 wA b2 m (cfgI m blankC (i1 + b)) _ l2 r2 ((HR2.out.ext hD).ext hA) (by omega) (by omega)
        have hPd : Ints w7.drew (.slice (some ⟨gp, op, none⟩) (i1 + b + 1) cp) (posM m blankC (i1 + b + 1)) := HP.out.ext hD
        have hcut : ((posM m blankC (i1 + b + 1)).drop i1).take (b + 1) = (List.range (b + 1)).map fun i => posI m blankC (i1 + i) := posL_cut m blankC (i1 + b) i1 b (Nat.le_refl _)
        have hPc : Ints w7.drew (.slice (some ⟨gp, op + i1, none⟩) (b + 1) (cp - i1)) ((List.range (b + 1)).map fun i => posI m blankC (i1 + i)) := by
          rw [← hcut]
          have h1 : Ints w7.drew (.slice (some ⟨gp, op, none⟩) (posM m blankC (i1 + b + 1)).length cp) (posM m blankC (i1 + b + 1)) := by rw [posM_len]; exact hPd
          have h2 := h1.drop i1 (by rw [posM_len]; omega)
          have h3 : Ints w7.drew (.slice (some ⟨gp, op + i1, none⟩) ((posM m blankC (i1 + b + 1)).drop i1).length (cp - i1)) ((posM m blankC (i1 + b + 1)).drop i1) := by rw [List.length_drop]; exact h2
          exact Ints.take h3 (b + 1) (by rw [List.length_drop, posM_len]; omega)
        obtain ⟨Q, hQ⟩ : ∃ Q, Q = (List.range (b + 1)).map fun i => posI m blankC (i1 + i) := ⟨_, rfl⟩
        rw [← hQ] at hPc
        have HQL : Hid (0 < Q.length) := Lib.hid (by rw [hQ]; simp)
        have HQB : Hid (∀ z ∈ Q, -1000000 ≤ z ∧ z ≤ 1000000) := Lib.hid (fun z hz => by
          rw [hQ] at hz
          obtain ⟨i, hi, rfl⟩ := List.mem_map.1 hz
          have hi' := List.mem_range.1 hi
          have := pos_bound HM.out (blank_good HM.out) (i1 + i) (fun j hj => HS.out.runs.no j (by omega))
          omega)
        have HQ := Lib.hid hQ
        have HCP := Lib.hid hPc
        have HF : Hid (shFits (cfgI m blankC i1) (cfgI m blankC (i1 + b)) d (behB Q d) = true) := Lib.hid (by rw [hQ]; exact HS.out.fits)
        have HBH : Hid (behB Q d ≤ 1000000) := Lib.hid (by
          have h0 := HQB.out _ (minL_mem HQL.out)
          have h9 := HQB.out _ (maxL_mem HQL.out)
          have hh : Q.getD 0 0 ∈ Q := by
            rw [List.getD_eq_getElem?_getD, List.getElem?_eq_getElem HQL.out]
            exact List.getElem_mem _
          have h8 : -10000 ≤ Q.getD 0 0 ∧ Q.getD 0 0 ≤ 10000 := by
            rw [hQ] at hh ⊢
            obtain ⟨i, hi, e⟩ := List.mem_map.1 hh
            have hi' := List.mem_range.1 hi
            have := pos_bound HM.out (blank_good HM.out) (i1 + i) (fun j hj => HS.out.runs.no j (by omega))
            omega
          have h7 : -10000 ≤ minL Q := by
            have := minL_mem HQL.out
            rw [hQ] at this ⊢
            obtain ⟨i, hi, e⟩ := List.mem_map.1 this
            have hi' := List.mem_range.1 hi
            have := pos_bound HM.out (blank_good HM.out) (i1 + i) (fun j hj => HS.out.runs.no j (by omega))
            omega
          have h6 : maxL Q ≤ 10000 := by
            have := maxL_mem HQL.out
            rw [hQ] at this ⊢
            obtain ⟨i, hi, e⟩ := List.mem_map.1 this
            have hi' := List.mem_range.1 hi
            have := pos_bound HM.out (blank_good HM.out) (i1 + i) (fun j hj => HS.out.runs.no j (by omega))
            omega
          unfold behB
          split <;> omega)
        obtain ⟨C1, hC1⟩ : ∃ C, C = cfgI m blankC i1 := ⟨_, rfl⟩
        obtain ⟨C2, hC2⟩ : ∃ C, C = cfgI m blankC (i1 + b) := ⟨_, rfl⟩
        rw [← hC1] at cf1 HF
        rw [← hC2] at cf2 HF
        have hcp1 : i1 + b + 1 ≤ cp := hcp
        have hs1 : (i1 : Int) ≤ (i1 : Int) + (b : Int) + 1 := by omega
        have hs2 : (i1 : Int) + (b : Int) + 1 ≤ (cp : Int) := by omega
        have hs3 : (0 : Int) ≤ (i1 : Int) + (b : Int) + 1 := by omega
        have hs4 : ((i1 : Int) + (b : Int) + 1).toNat = i1 + b + 1 := by omega
        have hs5 : ¬ cp = i1 := by omega
        have hw1 : IntKind.i64.wrap ((i1 : Int) + (b : Int)) = (i1 : Int) + (b : Int) := IntWalk.i64_in _ (by omega)
        have hw2 : IntKind.i64.wrap ((i1 : Int) + (b : Int) + 1) = (i1 : Int) + (b : Int) + 1 := IntWalk.i64_in _ (by omega)
        have hs7 : i1 ≤ i1 + b + 1 := by omega
        have hs6 : i1 + b + 1 - i1 = b + 1 := by omega
        clear hQ hPc hPd hcut hC1 hC2 hf1 hf2
        go_region_held3 (fun w' => w'.cell? ⟨x, 0, none⟩ = some (.slice (some ⟨gp, op, none⟩) (i1 + b + 1) cp))
          (first | (go_keep; done) | exact hD1.cell x0 | exact hC.cell x0 | exact hB.cell x0 | exact hA.cell x0)
          (first
            | (go_at_call 20; ((with_reducible refine cf1.mono ?_)); rintro e wA ⟨lA, rA, rfl, oA1, oA2, _, hxA⟩; have hA := (Ext.drew w7).trans hxA)
            | (go_at_call 20; ((with_reducible refine (cf2 _ hxA).mono ?_)); rintro e wB ⟨lB, rB, rfl, oB1, oB2, _, hxB⟩; have hB := hA.trans hxB; have oA1' := oA1.ext hxB; have oA2' := oA2.ext hxB)
            | (go_at_call 21; ((refine (behindHead_c _ Q d _ (HCP.out.ext (hxA.trans hxB)) HQL.out HQB.out).mono ?_)); rintro e wC ⟨rfl, hxC⟩; have hC := hB.trans hxC)
            | (go_at_call 19; ((with_reducible refine (shiftFits_c _ _ C1 C2 d _ _ (confMk (oA1'.ints.ext hxC) (oA2'.ints.ext hxC)) (confMk (oB1.ints.ext hxC) (oB2.ints.ext hxC)) HBH.out).mono ?_)); rw [HF.out]; rintro e wD ⟨rfl, hxD⟩; have hD1 := hC.trans hxD))
        all_goals
          go_wp2
          go_ret
          exact ⟨rfl, ((HX.out.trans hHX6.out).trans hx7).trans hD1⟩
      · exact absurd HS.out.runs (fun h => hF3.never h)
    · exact absurd HS.out.runs (fun h => hF2.never h)
  · exact absurd (HS.out.runs.less (show a ≤ a + b by omega)) (fun h => hF1.never h)
end Go.Proofs.Ytpdnmhhieokogaa
