/- Contract of the program's OneTapeTexts. The library's tables are as their text lays them.
The contract of the laws' r8Long.
The walk of the law on the machine with one tape for several. -/
import Derived.Test.YtgeckhjkahnonaaGreatDoorO40
import Derived.Test.YtgeckhjkahnonaaGreatDoorO42
import Derived.Test.YtgeckhjkahnonaaGreatDoorO43
import Derived.Test.YtgeckhjkahnonaaGreatDoorO02
import Derived.Test.YtgeckhjkahnonaaGreatDoorO36
import Derived.Test.YtgeckhjkahnonaaGreatDoorO39
section
set_option linter.unusedSimpArgs false
set_option linter.unusedVariables false
namespace Go.Proofs.YtgeckhjkahnonaaGreatDoor
open Go Go.RowKit Go.Proofs
set_option maxHeartbeats 400000
set_option maxRecDepth 20000 in
set_option maxHeartbeats 4000000 in
theorem OneTapeTexts_c (m : MultiD) (mv wv : Value) (ws : List (List Int)) (vs : List Value) (n : Int) (w : World) (hM : Mult w mv m) (hW : Row w 1 wv ws.length vs) (hI : ∀ i, (h : i < ws.length) → ∃ u, vs[i]? = some u ∧ Ints w u ws[i] ∧ Flat u) (hT : Tab w) :
    Calls Tryz.prog 8 #[mv, wv, .int .i64 n] w (TxRes w (OTxt m ws n)) := by
  obtain ⟨rv, rfl, hR⟩ := id hM
  obtain ⟨A, cA, rfl, _, _⟩ := hR.form
  obtain ⟨B, cB, rfl, hB1, hB2, hvl⟩ := id hW.form
  obtain ⟨g, hg⟩ : ∃ g, w.heap.size = g := ⟨_, rfl⟩
  obtain ⟨V, hV⟩ : ∃ V, V = w.alloc (.cells #[.int .i64 m.tp, .int .i64 m.sy, .int .i64 m.st, .slice A m.rules.length cA] 26) := ⟨_, rfl⟩
  have hX : Ext w V := by rw [hV]; exact Ext.alloc _ _
  have bM : Blk V g 26 #[.int .i64 m.tp, .int .i64 m.sy, .int .i64 m.st, .slice A m.rules.length cA] := by rw [hV]; exact Blk.new _ _ _ _ hg
  have VM := ValidMulti_c (.agg #[.int .i64 m.tp, .int .i64 m.sy, .int .i64 m.st, .slice A m.rules.length cA]) m V ⟨_, rfl, hR.ext hX⟩
  obtain ⟨v, hv⟩ : ∃ v, multiOk m = v := ⟨_, rfl⟩
  obtain ⟨d, hd⟩ : ∃ d, inB n 0 599 = d := ⟨_, rfl⟩
  have hTC := fun w => textsCode_c v n w
  rw [hv] at VM
  rw [hd] at hTC
  have HV := Lib.hid hv
  have HD := Lib.hid hd
  clear hv hd
  go_enter Tryz.func8, Tryz.ntmps8
  go_wp2_with fail
  try rw [← hV]
  try rw [hg]
  clear hV
  refine VM.mono ?_
  rintro e w1 ⟨rfl, hx1⟩
  go_wp2_with fail
  refine (hTC w1).mono ?_
  rintro e w' ⟨rfl, rfl⟩
  clear VM
  have hX1 := hX.trans hx1
  have bM1 := bM.ext hx1
  cases v with
  | false =>
    have HF := Lib.hid (OTxt.bad (ws := ws) (n := n) HV.out)
    rw [show codeT false d = 1 from rfl]
    go_wp2
    go_ret2
    exact TxRes.none HF.out hX1
  | true =>
    cases d with
    | false =>
      have HF := Lib.hid (OTxt.steps (ws := ws) HV.out HD.out)
      rw [show codeT true false = 2 from rfl]
      go_wp2
      go_ret2
      exact TxRes.none HF.out hX1
    | true =>
      rw [show codeT true true = 0 from rfl]
      have hn := inB_iff.1 HD.out
      have m0 := bM1.cell 0
      have m1 := bM1.cell 1
      have m2 := bM1.cell 2
      have m3 := bM1.cell 3
      simp only [List.getElem?_toArray, List.getElem?_cons_zero, List.getElem?_cons_succ] at m0 m1 m2 m3
      have OT := oneTape_c (.agg #[.int .i64 m.tp, .int .i64 m.sy, .int .i64 m.st, .slice A m.rules.length cA]) m w1 ⟨_, rfl, hR.ext hX1⟩ HV.out
      clear hTC
      go_wp2_with fail
      refine OT.mono ?_
      rintro e w2 ⟨hres, hx2⟩
      clear OT
      have hX2 := hX1.trans hx2
      have bM2 := bM1.ext hx2
      rcases hres with ⟨hnn, rfl⟩ | ⟨s, bx, bm, rvx, pvx, hs, rfl, hst, hok, l1, l2⟩
      · have HF := Lib.hid (OTxt.big (ws := ws) HV.out HD.out hnn)
        clear hnn
        go_wp2
        go_ret2
        exact TxRes.none HF.out (hX2.trans (Ext.alloc _ _))
      · have HS := Lib.hid hs
        have HOK := Lib.hid hok
        obtain ⟨Av, cv, rfl, _, _⟩ := id hst.rules.rules.form
        obtain ⟨gx, hgx⟩ : ∃ k, w2.heap.size = k := ⟨_, rfl⟩
        obtain ⟨W3, hW3⟩ : ∃ W3, W3 = w2.alloc (.cells #[.pointer (some ⟨bx, 0, none⟩)] 56) := ⟨_, rfl⟩
        have hX3 : Ext w2 W3 := by rw [hW3]; exact Ext.alloc _ _
        have bP : Blk W3 gx 56 #[.pointer (some ⟨bx, 0, none⟩)] := by rw [hW3]; exact Blk.new _ _ _ _ hgx
        have bM3 := bM2.ext hX3
        have hE3 := hX2.trans hX3
        clear m0 m1 m2 m3
        have m0 := bM3.cell 0
        have m1 := bM3.cell 1
        have m2 := bM3.cell 2
        have m3 := bM3.cell 3
        simp only [List.getElem?_toArray, List.getElem?_cons_zero, List.getElem?_cons_succ] at m0 m1 m2 m3
        have SO := StartOneTape_c m (.agg #[.int .i64 m.tp, .int .i64 m.sy, .int .i64 m.st, .slice A m.rules.length cA]) (.slice B ws.length cB) ws vs W3 ⟨_, rfl, hR.ext hE3⟩ (hW.ext hE3) (fun i hi => by
          obtain ⟨u, e, iu, hf⟩ := hI i hi
          exact ⟨u, e, iu.ext hE3, hf⟩)
        rw [hW3] at m0 m1 m2 m3
        clear hs hok
        go_wp2_with fail
        try rw [← hW3]
        try rw [hgx]
        clear hW3 m0 m1 m2 m3
        refine SO.mono ?_
        rintro e w4 ⟨lvs, rvs, rfl, ol4, or4, hx4⟩
        clear SO
        obtain ⟨Al, cl, rfl, _, _⟩ := id ol4.ints.form
        obtain ⟨Ar, cr, rfl, _, _⟩ := id or4.ints.form
        have hX4 := hE3.trans hx4
        by_cases hk : (startOC m ws).2 = 0
        · obtain ⟨hwok, hlen, hsc⟩ := startOC_ok HV.out hk
          have hcf := startO_conf HV.out HS.out hwok hlen
          have HK := Lib.hid hk
          rw [hsc] at ol4 or4 ⊢
          simp only at ol4 or4 ⊢
          have hmo := (one_ok HV.out HS.out).1
          have HRUN : Hid (∀ L kk, TRun (oneM m s) (startO m ws) n.toNat (txtO m s) L kk → OTxt m ws n L kk) := Lib.hid (fun L kk h => OTxt.run HV.out HD.out HS.out HK.out h)
          obtain ⟨x0, hx0⟩ : ∃ q, startO m ws = q := ⟨_, rfl⟩
          rw [hx0] at hcf ol4 or4 HRUN ⊢
          obtain ⟨W5, hW5⟩ : ∃ W, W = w4.alloc (.cells #[.int .i64 x0.q, .slice Al x0.l.length cl, .slice Ar x0.r.length cr] 60) := ⟨_, rfl⟩
          have hX5 : Ext w4 W5 := by rw [hW5]; exact Ext.alloc _ _
          have bC5 : Blk W5 w4.heap.size 60 #[.int .i64 x0.q, .slice Al x0.l.length cl, .slice Ar x0.r.length cr] := by rw [hW5]; exact Blk.new _ _ _ _ rfl
          obtain ⟨gc, hgc⟩ : ∃ k, w4.heap.size = k := ⟨_, rfl⟩
          rw [hgc] at bC5
          have zD := Ext.drew W5
          have hx45 := hx4.trans (hX5.trans zD)
          have hE5 := hE3.trans hx45
          have HPL := (hst.ext hX3).ext hx45
          have hENV : OtEnv W5.drew gx g m s := ⟨⟨bx, _, _, _, _, bP.ext hx45, HPL⟩, A, cA, bM3.ext hx45⟩
          have hTd := hT.ext hE5
          have hm := HV.out
          have hokk := HOK.out
          have hRT : Calls Tryz.prog 22 #[.agg #[.int .i64 (2 * m.sy), .int .i64 (s.1.length : Int), .slice Av s.2.length cv], .agg #[.int .i64 x0.q, .slice Al x0.l.length cl, .slice Ar x0.r.length cr], .int .i64 (n.toNat : Int), fnO gx g] W5.drew (TxtOut W5.drew (oneM m s) x0 n.toNat (txtO m s)) :=
            runTextsO_c W5.drew (oneM m s) x0 _ _ _ n.toNat gx g (txtO m s) (by omega) hmo hcf HPL.rules.rules (ol4.ext (hX5.trans zD)).ints (or4.ext (hX5.trans zD)).ints ol4.flat or4.flat
              (fun i v1 v2 X hrun hx h1 h2 f1 f2 => oneText_c gx g m s _ v1 v2 X hm hokk (hENV.ext hx) (run_confM hmo hcf hrun) h1 h2 f1 f2 (hTd.ext hx))
          rw [Int.toNat_of_nonneg hn.1] at hRT
          have p0 := (bP.ext hx45).cell 0
          have t0 := HPL.blk.cell 0
          have t1 := HPL.blk.cell 1
          have t2 := HPL.blk.cell 2
          have g0 := (bC5.ext zD).cell 0
          have g1 := (bC5.ext zD).cell 1
          have g2 := (bC5.ext zD).cell 2
          simp only [List.getElem?_toArray, List.getElem?_cons_zero, List.getElem?_cons_succ] at p0 t0 t1 t2 g0 g1 g2
          have hXs : w.heap.size ≤ W5.drew.heap.size := hE5.size
          clear hk hwok hlen hsc hx0 hcf hENV hmo hokk hm
          go_upto_region 10 with fail
          try rw [← hW5]
          try rw [hgc]
          clear hW5
          refine wp_region_ordT 10 (readsT [0, 1, 2, 3, 4, 5] (.stir 6 (.stir 7 (readsT [8, 9] .done)))) (by kernel_rfl) (by kernel_rfl) (fun _ _ _ _ _ h => h) ?_
          simp only [readsT]
          iterate 6 (refine wpOrdT_read (v := ?_) (by rfl) (Or.inl ⟨by rfl, fun x hx => ?_⟩) ?_; rotate_left; (· have a0 := hx.cell p0; have a1 := hx.cell t0; have a2 := hx.cell t1; have a3 := hx.cell t2; have a4 := hx.cell g0; have a5 := hx.cell g1; have a6 := hx.cell g2; go_simp; try with_reducible rfl); try simp only [Act.put, List.setIfInBounds_toArray, List.set_cons_zero, List.set_cons_succ])
          refine wpOrdT_keep (by rfl) (fun K hK => ?_)
          go_simp
          refine hK _ _ (Ext.refl _) ?_
          clear hK K
          refine wpOrdT_keep (by rfl) (fun K hK => ?_)
          go_simp
          go_at_call 22
          refine hRT.mono ?_
          rintro e w6 ⟨L, kk, tv, rfl, ho6, hTR, hx6⟩
          have HTR := Lib.hid hTR
          clear hTR
          obtain ⟨A6, c6, rfl, _, _, _⟩ := (ownsRow_row ho6).form
          refine hK _ _ hx6 ?_
          clear hK K
          iterate 2 (refine wpOrdT_read (v := ?_) (by rfl) (Or.inl ⟨by rfl, fun x hx => ?_⟩) ?_; rotate_left; (· go_simp; try with_reducible rfl); try simp only [Act.put, List.setIfInBounds_toArray, List.set_cons_zero, List.set_cons_succ])
          refine wpOrdT_done ?_
          try simp only [List.drop_succ_cons, List.drop_zero]
          have HFin : Hid (TxRes w (OTxt m ws n) (.returned (.tuple #[.slice A6 L.length c6, .int .i64 kk])) w6) := ⟨L, kk, _, rfl, ownsRow_base ho6 hXs, HRUN.out L kk HTR.out, hE5.trans hx6⟩
          clear ho6
          go_wp2
          go_ret2
          exact HFin.out
        · have HF := Lib.hid (OTxt.start HV.out HD.out HS.out hk)
          obtain ⟨⟨⟨sq, sl, sr⟩, sk⟩, hsc⟩ : ∃ q, startOC m ws = q := ⟨_, rfl⟩
          rw [hsc] at HF hk ol4 or4 ⊢
          simp only at HF hk ol4 or4 ⊢
          have hne : (sk != 0) = true := by simpa using hk
          clear hk hsc
          go_wp2
          go_ret2
          exact TxRes.none HF.out (hX4.trans (Ext.alloc _ _))
end Go.Proofs.YtgeckhjkahnonaaGreatDoor
end
section
namespace Go.Proofs.YtgeckhjkahnonaaGreatDoor
open Go Go.RowKit Go.Proofs
set_option maxHeartbeats 400000
theorem r8Longs_c (w : World) (A B : Option Addr) (n c k d : Nat) :
    Calls Tryz.prog 4 #[.slice A n c, .slice B k d] w fun e w' => e = .returned (.bool (decide (1048576 < n) || decide (1048576 < k))) ∧ w = w' := by
  by_cases h1 : 1048576 < n
  · have e1 : decide ((n : Int) > 1048576) = true := by simp; omega
    have HH := Lib.hid h1
    clear h1
    go_enter Tryz.func4, Tryz.ntmps4
    go_wp2
    go_ret
    exact ⟨by simp [HH.out], rfl⟩
  · have e1 : decide ((n : Int) > 1048576) = false := by simp; omega
    have HH := Lib.hid h1
    clear h1
    by_cases h2 : 1048576 < k
    · have e2 : decide ((k : Int) > 1048576) = true := by simp; omega
      have HK := Lib.hid h2
      clear h2
      go_enter Tryz.func4, Tryz.ntmps4
      go_wp2
      go_ret
      exact ⟨by simp [HH.out, HK.out], rfl⟩
    · have e2 : decide ((k : Int) > 1048576) = false := by simp; omega
      have HK := Lib.hid h2
      clear h2
      go_enter Tryz.func4, Tryz.ntmps4
      go_wp2
      go_ret
      exact ⟨by simp [HH.out, HK.out], rfl⟩
end Go.Proofs.YtgeckhjkahnonaaGreatDoor
end
section
set_option linter.unusedSimpArgs false
set_option linter.unusedVariables false
namespace Go.Proofs.YtgeckhjkahnonaaGreatDoor
open Go Go.RowKit Go.Proofs
set_option maxHeartbeats 400000
theorem r8At0_c (v : Value) (bs : List Int) (w : World) (h : Bytes w v bs) :
    Calls Tryz.prog 7 #[v, .int .i64 0, .int .i64 4] w fun e w' => (∃ z : Int, e = .returned (.int .i64 z) ∧ 0 ≤ z ∧ z < 4) ∧ w = w' := by
  obtain ⟨A, c, rfl, h1, h2, _⟩ := h.1.form
  by_cases hlt : 0 < bs.length
  · obtain ⟨b', off, rfl, hcc⟩ := Row.at h.1 hlt
    have d0 := hcc 0 (by simpa [bvs] using hlt)
    rw [bvs_get bs 0 hlt, Nat.add_zero] at d0
    have hz := h.2 bs[0] (List.getElem_mem hlt)
    generalize bs[0] = z at *
    have hr := fun W => rem_run (P := Tryz.prog) 2 z 4 hz.1 (by omega) W
    have hd : ¬ bs = [] := by intro e; rw [e] at hlt; simp at hlt
    clear hcc
    go_enter Tryz.func7, Tryz.ntmps7
    go_wp2
    go_ret
    exact ⟨⟨z % 4, rfl, by omega, by omega⟩, rfl⟩
  · have hd : bs = [] := List.length_eq_zero_iff.1 (by omega)
    subst hd
    go_enter Tryz.func7, Tryz.ntmps7
    go_wp2
    go_ret
    exact ⟨⟨0, rfl, by omega, by omega⟩, rfl⟩
theorem words_flat {base : Nat} {w : World} {v : Value} {ws : List (List Int)} (h : OwnIntRows base w v ws) : ∃ vs, Row w 1 v ws.length vs ∧ ∀ i, (h : i < ws.length) → ∃ u, vs[i]? = some u ∧ Ints w u ws[i] ∧ Flat u := by
  obtain ⟨vs, h1, h2, _⟩ := h
  exact ⟨vs, ownsRow_row h1, fun i hi => by obtain ⟨u, e, o⟩ := h2 i hi; exact ⟨u, e, o.ints, o.flat⟩⟩
set_option maxRecDepth 20000 in
set_option maxHeartbeats 4000000 in
theorem law9_c (v u : Value) (bs ms : List Int) (w : World) (h : Bytes w v bs) (h' : Bytes w u ms) (hTb : Tab w) :
    Calls Tryz.prog 3 #[v, u] w fun e w' => e = .returned (.bool true) ∧ Ext w w' := by
  obtain ⟨Av, cv, rfl, _, _, _⟩ := h.1.form
  obtain ⟨Au, cu, rfl, _, _, _⟩ := h'.1.form
  go_enter Tryz.func3, Tryz.ntmps3
  go_wp2_with fail
  refine (r8Longs_c w Av Au bs.length cv ms.length cu).mono ?_
  rintro e w1 ⟨rfl, rfl⟩
  cases hbig : (decide (1048576 < bs.length) || decide (1048576 < ms.length)) with
  | true =>
    go_wp2
    go_ret
    exact ⟨rfl, Ext.refl _⟩
  | false =>
    clear hbig
    have RM := R8Multi_c _ bs w h
    clear h
    go_wp2_with fail
    refine RM.mono ?_
    rintro e w2 ⟨st, rs, Am, cm, wv, ws, rfl, oM, hok, oW, hwl, hw3, ⟨hst, hr8⟩, hx2⟩
    obtain ⟨vs, rW, iW⟩ := words_flat oW
    obtain ⟨Aw, cw, rfl, _, _, _⟩ := rW.form
    obtain ⟨V2, hV2⟩ : ∃ V, V = w2.alloc (.cells #[.int .i64 2, .int .i64 2, .int .i64 st, .slice Am rs.length cm] 26) := ⟨_, rfl⟩
    obtain ⟨bm, hbm⟩ : ∃ b, w2.heap.size = b := ⟨_, rfl⟩
    have hXV : Ext w2 V2 := by rw [hV2]; exact Ext.alloc _ _
    have bM : Blk V2 bm 26 #[.int .i64 2, .int .i64 2, .int .i64 st, .slice Am rs.length cm] := by rw [hV2]; exact Blk.new _ _ _ _ hbm
    have hX := hx2.trans hXV
    have hMu : Mult V2 (.agg #[.int .i64 2, .int .i64 2, .int .i64 st, .slice Am rs.length cm]) ⟨2, 2, st, rs⟩ := ⟨_, rfl, (oM.ext hXV).rules⟩
    have rW2 := Row.ext rW hXV
    have iW2 : ∀ i, (h : i < ws.length) → ∃ u, vs[i]? = some u ∧ Ints V2 u ws[i] ∧ Flat u := fun i hi => by obtain ⟨u, a, b, c⟩ := iW i hi; exact ⟨u, a, Row.ext b hXV, c⟩
    have hT2 : Tab V2 := hTb.ext hX
    have R8B := Lib.hid (show Bytes V2 _ ms from ⟨Row.ext h'.1 hX, h'.2⟩)
    have HW : Hid (ws.length = 2 ∧ ∀ x ∈ ws, Wd3 x) := Lib.hid ⟨hwl, hw3⟩
    have HOK := Lib.hid hok
    have HST : Hid (st ≤ 2 ∧ rs.length ≤ 8) := Lib.hid ⟨hst, hr8⟩
    have HMu := Lib.hid hMu
    have HrW := Lib.hid rW2
    have HiW := Lib.hid iW2
    have m0 := bM.cell 0
    have m1 := bM.cell 1
    have m2 := bM.cell 2
    have m3 := bM.cell 3
    simp only [List.getElem?_toArray, List.getElem?_cons_zero, List.getElem?_cons_succ] at m0 m1 m2 m3
    clear RM oM oW rW iW hwl hw3 hok hst hr8 hMu rW2 iW2 h' hTb hXV
    go_wp2_with fail
    try rw [← hV2]
    try rw [hbm]
    clear hV2 hbm
    have z0 : V2.drew.cell? ⟨bm, 0, none⟩ = some (.int .i64 2) := m0
    have z1 : V2.drew.cell? ⟨bm, 1, none⟩ = some (.int .i64 2) := m1
    have z2 : V2.drew.cell? ⟨bm, 2, none⟩ = some (.int .i64 st) := m2
    have z3 : V2.drew.cell? ⟨bm, 3, none⟩ = some (.slice Am rs.length cm) := m3
    have R8D := r8At0_c _ ms V2.drew ⟨Row.ext R8B.out.1 (Ext.drew _), R8B.out.2⟩
    refine wp_region_ordT 9 (readsT [0, 1, 2] (.stir 3 (.stir 4 (readsT [5, 6, 7, 8] .done)))) (by kernel_rfl) (by kernel_rfl) (fun _ _ _ _ _ h => h) ?_
    simp only [readsT]
    iterate 3 (refine wpOrdT_read (v := ?_) (by rfl) (Or.inl ⟨by rfl, fun x hx => ?_⟩) ?_; rotate_left; (· have y0 := Ext.cell hx z0; have y1 := Ext.cell hx z1; have y2 := Ext.cell hx z2; have y3 := Ext.cell hx z3; go_simp; try with_reducible rfl); try simp only [Act.put, List.setIfInBounds_toArray, List.set_cons_zero, List.set_cons_succ])
    refine wpOrdT_stir (by rfl) (fun K hK => ?_)
    go_simp
    go_at_call 7
    refine R8D.mono ?_
    rintro e w3 ⟨⟨n, rfl, n0, n4⟩, rfl⟩
    refine hK _ _ (Ext.refl _) ?_
    clear hK K
    try simp only [Act.put, List.setIfInBounds_toArray, List.set_cons_zero, List.set_cons_succ]
    have MT := MultiTexts_c ⟨2, 2, st, rs⟩ (.agg #[.int .i64 2, .int .i64 2, .int .i64 st, .slice Am rs.length cm]) (.slice Aw ws.length cw) ws vs n V2.drew (HMu.out.ext (Ext.drew _)) (Row.ext HrW.out (Ext.drew _)) (fun i hi => by obtain ⟨u, a, b, c⟩ := HiW.out i hi; exact ⟨u, a, Row.ext b (Ext.drew _), c⟩) (hT2.ext (Ext.drew _))
    refine wpOrdT_stir (by rfl) (fun K hK => ?_)
    go_simp
    go_at_call 6
    refine MT.mono ?_
    rintro e w4 ⟨⟨L, kk, tv, rfl, hL, oL⟩, hx4⟩
    refine hK _ _ hx4 ?_
    clear hK K
    try simp only [Act.put, List.setIfInBounds_toArray, List.set_cons_zero, List.set_cons_succ]
    iterate 4 (refine wpOrdT_read (v := ?_) (by rfl) (Or.inl ⟨by rfl, fun x hx => ?_⟩) ?_; rotate_left; (· go_simp; try with_reducible rfl); try simp only [Act.put, List.setIfInBounds_toArray, List.set_cons_zero, List.set_cons_succ])
    refine wpOrdT_done ?_
    try simp only [List.drop_succ_cons, List.drop_zero]
    have hX4 : Ext V2 w4 := (Ext.drew V2).trans hx4
    have y0 := hX4.cell m0
    have y1 := hX4.cell m1
    have y2 := hX4.cell m2
    have y3 := hX4.cell m3
    have OT := OneTapeTexts_c ⟨2, 2, st, rs⟩ (.agg #[.int .i64 2, .int .i64 2, .int .i64 st, .slice Am rs.length cm]) (.slice Aw ws.length cw) ws vs 300 w4 (HMu.out.ext hX4) (Row.ext HrW.out hX4) (fun i hi => by obtain ⟨u, a, b, c⟩ := HiW.out i hi; exact ⟨u, a, Row.ext b hX4, c⟩) (hT2.ext hX4)
    have HL := Lib.hid hL
    have HOL := Lib.hid oL
    have HN : Hid (0 ≤ n ∧ n < 4) := Lib.hid ⟨n0, n4⟩
    obtain ⟨At, ct, rfl, _, _, _⟩ := (ownsRow_row oL).form
    clear MT hL oL hx4 z0 z1 z2 z3 m0 m1 m2 m3 n0 n4 R8D
    go_wp2_with fail
    refine OT.mono ?_
    rintro e w5 ⟨L', kk', tv', rfl, oL', hL', hx5⟩
    obtain ⟨At', ct', rfl, _, _, hzz⟩ := (ownsRow_row oL').form
    clear hzz
    have HSI : Hid (kk = 0 ∧ kk' = 0 ∧ (∃ τ, InOrder L L' τ) ∧ L.length ≤ 600 ∧ L'.length ≤ 600 ∧ ∀ x ∈ L, x ≠ []) :=
      Lib.hid (one_sim (m := ⟨2, 2, st, rs⟩) HOK.out rfl rfl HST.out.1 HST.out.2 HW.out HN.out HL.out hL')
    obtain ⟨e1, e2, ⟨τ, hO⟩, l1, l2, hne⟩ := HSI.out
    subst e1
    subst e2
    have sL : StrR w5 (.slice At L.length ct) L := ownsRow_row (ownsRow_ext HOL.out hx5)
    have sL' : StrR w5 (.slice At' L'.length ct') L' := ownsRow_row oL'
    have FS := FindSimulation_c _ _ L L' τ w5 sL sL' hO hne l1 l2
    have HSL := Lib.hid sL
    have HSL' := Lib.hid sL'
    have HL2 : Hid ((L.length ≤ 600 ∧ L'.length ≤ 600 ∧ ∀ x ∈ L, x ≠ []) ∧ 0 < L.length) := Lib.hid ⟨⟨l1, l2, hne⟩, hO.pos⟩
    have hX5 := hX4.trans hx5
    clear OT hL' oL' sL sL' hO hne l1 l2 HSI y0 y1 y2 y3 bM
    go_wp2_with fail
    refine FS.mono ?_
    rintro e w6 ⟨⟨av, zs, rfl, oZ, hS⟩, hx6⟩
    have IS := IsSimulation_c _ _ av L L' zs w6 (Row.ext HSL.out hx6) (Row.ext HSL'.out hx6) oZ.ints hS HL2.out.1.2.2 HL2.out.2 HL2.out.1.1 HL2.out.1.2.1
    have hX6 := (hX.trans hX5).trans hx6
    clear FS oZ hS hx6
    go_wp2_with fail
    refine IS.mono ?_
    rintro e w7 ⟨rfl, hx7⟩
    go_wp2
    go_ret
    exact ⟨rfl, hX6.trans hx7⟩
end Go.Proofs.YtgeckhjkahnonaaGreatDoor
end
