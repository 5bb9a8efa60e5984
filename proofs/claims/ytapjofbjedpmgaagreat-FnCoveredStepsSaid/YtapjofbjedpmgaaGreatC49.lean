/- The walk of the law on the steps of covered configurations. Written by law18.py.
From each configuration that an accepted proof by contexts covers, the machine makes a step to another one that it covers: the law answers true for all arguments and leaves them as they are. No condition. -/
import Derived.Test.YtapjofbjedpmgaaGreatC45
import Derived.Test.YtapjofbjedpmgaaGreatC41
import Derived.Test.YtapjofbjedpmgaaGreatC47
import Derived.Test.YtapjofbjedpmgaaGreatC48
import Derived.Test.YtapjofbjedpmgaaGreatC02
import Derived.Test.YtapjofbjedpmgaaGreatC03
import Derived.Test.YtapjofbjedpmgaaGreatRows
section
set_option linter.unusedSimpArgs false
set_option linter.unusedVariables false
namespace Go.Proofs.YtapjofbjedpmgaaGreat
open Go Go.RowKit Go.Proofs
set_option maxHeartbeats 400000
theorem own_farC {B g : Nat} {w : World} {v : Value} {zs : List Int} {t : TypeId} {cs : Array Value} (h : OwnInts B w v zs) (hb : Blk w g t cs) (hne : t ≠ 2) (a b c : Value) : OwnInts B (((w.setCell ⟨g, 0, none⟩ a).setCell ⟨g, 1, none⟩ b).setCell ⟨g, 2, none⟩ c) v zs := by
  have n := own_far_blk h hb hne
  exact ownsRow_far (ownsRow_far (ownsRow_far h n _) n _) n _
/-- What is known of a found proof. -/
structure FndP (m : MachD) (s : SetsD) (p : ProofD) : Prop where
  ok : prfOk p = true
  sb : setsB p = true
  n4 : 4 ≤ p.ns.length
  sp : setsP p = s
  so : SetsOk s
  si : SetsIn m.sy m.st s
  cl : Closed m s
  chk : chkX m s = true
  gl : GoodL s.n s.l
  gr : GoodL s.n s.r
  gc : GoodL (2 * s.n + 2) s.c
  len : s.l.length ≤ 1000 ∧ s.r.length ≤ 1000 ∧ s.c.length ≤ 1000
theorem fndP {m : MachD} {s : SetsD} (hm : machOk m = true) (h0 : prfOk (proofX s) = true) (hO : SetsOk s) (hI : SetsIn m.sy m.st s) (hC : Closed m s) (r1 : riseB s.l = true) (r2 : riseB s.r = true) (r3 : riseB s.c = true) (l1 : s.l.length ≤ 300) (l2 : s.r.length ≤ 300) (l3 : s.c.length ≤ 300) : FndP m s (proofX s) := by
  obtain ⟨⟨s1, s2, s3, s4⟩, _, _⟩ := machOk_five hm
  have hz : 1 ≤ s.c.length := List.length_pos_of_mem hC.zc
  refine ⟨h0, setsB_proofX hO hI (by omega) s4 r1 r2 r3, ?_, setsP_proofX hO, hO, hI, hC, hC.chk hO hI, ⟨hO.l, fun x hx z hz => by have := hI.l x hx z hz; exact ⟨by omega, by omega⟩⟩, ⟨hO.r, fun x hx z hz => by have := hI.r x hx z hz; exact ⟨by omega, by omega⟩⟩, ⟨hO.c, fun x hx z hz => ?_⟩, by omega, by omega, by omega⟩
  · simp only [proofX, List.length_cons, List.length_map]
    omega
  · have h1 := hI.c x hx
    cases x with
    | nil => cases hz
    | cons a t =>
      rcases List.mem_cons.1 hz with rfl | hz
      · have := h1.1; simp at this; exact ⟨by omega, by omega⟩
      · have := h1.2 z hz; exact ⟨by omega, by omega⟩
theorem cov_next {m : MachD} {s : SetsD} {p : ProofD} {c : ConfD} (hm : machOk m = true) (h : FndP m s p) (hc : confB m c = true) (hcov : covX s c = true) :
    ¬ lookI m c = noR ∧ covX s (stepI (lookI m c) c) = true ∧ (fitI (stepI (lookI m c) c) = true → confB m (stepI (lookI m c) c) = true) := by
  obtain ⟨hg, _, ht⟩ := conf_good hc
  obtain ⟨h1, h2⟩ := cov_step hm h.so h.chk hg hcov
  exact ⟨h1, h2, fun hf => conf_back (hg.step hm h1) (by simpa [fitI] using hf) (tidy_step ht)⟩
/-- The loop of the law: a configuration of its own, the proof and the machine as they were. -/
structure CovL (B bm gC gP : Nat) (V0 : World) (m : MachD) (p : ProofD) (Am An Aw : Option Addr) (cm cn cw : Nat) (w : World) : Prop where
  x : Ext V0 w
  pb : Blk w gP 34 #[.int .i64 p.k, .slice An p.ns.length cn, .slice Aw p.ws.length cw]
  po : PrfO B w (.agg #[.int .i64 p.k, .slice An p.ns.length cn, .slice Aw p.ws.length cw]) p
  c : ∃ (c : ConfD) (B1 B2 : Option Addr) (d1 d2 : Nat), confB m c = true ∧ Blk w gC 29 #[.int .i64 c.q, .slice B1 c.l.length d1, .slice B2 c.r.length d2] ∧ OwnInts B w (.slice B1 c.l.length d1) c.l ∧ OwnInts B w (.slice B2 c.r.length d2) c.r
set_option maxRecDepth 20000 in
set_option maxHeartbeats 16000000 in
theorem law18_c (v u : Value) (bs ms : List Int) (w : World) (h : Bytes w v bs) (h' : Bytes w u ms) :
    Calls Tryz.prog 3 #[v, u] w fun e w' => e = .returned (.bool true) ∧ Ext w w' := by
  obtain ⟨Av, cv, rfl, _, _, _⟩ := h.1.form
  obtain ⟨Au, cu, rfl, _, _, _⟩ := h'.1.form
  go_enter Tryz.func3, Tryz.ntmps3
  go_wp2_with fail
  refine (r8Longs_c w Av Au bs.length cv ms.length cu).mono ?_
  rintro e w1 ⟨rfl, rfl⟩
  cases hbig : (decide (1048576 < bs.length) || decide (1048576 < ms.length)) with
  | true =>
    go_wp2
    go_ret
    exact ⟨rfl, Ext.refl _⟩
  | false =>
    clear hbig
    have RM := R8Machine_c _ bs w h
    clear h h'
    go_wp2_with fail
    refine RM.mono ?_
    rintro e w2 ⟨⟨m, c0, mv, lv, qv, rfl, hmk, _, hcb, oM, oL, oR⟩, hx2⟩
    obtain ⟨Am, cm, rfl, _⟩ := oM.rules.form
    obtain ⟨A1, c1, rfl, _⟩ := oL.ints.form
    obtain ⟨A2, c2, rfl, _⟩ := oR.ints.form
    clear RM
    obtain ⟨V0, hV0⟩ : ∃ V, V = w2.alloc (.cells #[.int .i64 m.sy, .int .i64 m.st, .slice Am m.rules.length cm] 26) := ⟨_, rfl⟩
    obtain ⟨bm, hbm⟩ : ∃ b, w2.heap.size = b := ⟨_, rfl⟩
    obtain ⟨V, hV⟩ : ∃ V, V = V0.alloc (.cells #[.int .i64 c0.q, .slice A1 c0.l.length c1, .slice A2 c0.r.length c2] 29) := ⟨_, rfl⟩
    have e0 : Ext w2 V0 := by rw [hV0]; exact Ext.alloc _ _
    have s0 : V0.heap.size = bm + 1 := by rw [hV0]; simp [hbm]
    have e1 : Ext V0 V := by rw [hV]; exact Ext.alloc _ _
    have bM : Blk V0 bm 26 #[.int .i64 m.sy, .int .i64 m.st, .slice Am m.rules.length cm] := by rw [hV0]; exact Blk.new _ _ _ _ hbm
    have bC : Blk V (bm + 1) 29 #[.int .i64 c0.q, .slice A1 c0.l.length c1, .slice A2 c0.r.length c2] := by rw [hV]; exact Blk.new _ _ _ _ s0
    have FA : Calls Tryz.prog 7 #[.agg #[.int .i64 m.sy, .int .i64 m.st, .slice Am m.rules.length cm], .int .i64 2] V fun e w' => FnyR V.heap.size m e w' ∧ Ext V w' := FindAnyContexts_c 2 m _ V (oM.rules.ext (e0.trans e1)) hmk (by omega) (by omega)
    have hsz : w.heap.size ≤ V.heap.size := (hx2.trans (e0.trans e1)).size
    have bMV := bM.ext e1
    have m0 := bMV.cell 0
    have m1 := bMV.cell 1
    have m2 := bMV.cell 2
    simp only [List.getElem?_toArray, List.getElem?_cons_zero, List.getElem?_cons_succ] at m0 m1 m2
    have H0 := Lib.hid (And.intro hmk (And.intro (oM.rules.ext e0) (And.intro bM (And.intro (hx2.trans e0) (And.intro s0 e1)))))
    have HC := Lib.hid (And.intro hcb (And.intro bC (And.intro (oL.ext (e0.trans e1)) (oR.ext (e0.trans e1)))))
    have HSZ := Lib.hid hsz
    clear oM oL oR hmk hcb hx2 bM bC e0 e1 s0 bMV hsz
    go_upto_region 4 with fail
    try rw [← hV0]
    try rw [← hV]
    try rw [hbm]
    clear hV0 hV hbm
    go_wp2_with fail
    refine FA.mono ?_
    rintro e w3 ⟨hf, hx3⟩
    rcases hf with ⟨s, u, rfl, PO, k0, k1, k2, k3, k4, k5, k6, k7, k8, k9⟩ | ⟨cd, hcd, rfl⟩
    · have hF := fndP H0.out.1 k0 k1 k2 k3 k4 k5 k6 k7 k8 k9
      have hcv := cov_blank k3 k1
      obtain ⟨p, hp⟩ : ∃ p, proofX s = p := ⟨_, rfl⟩
      rw [hp] at hF PO
      clear hp k0 k1 k2 k3 k4 k5 k6 k7 k8 k9 FA
      obtain ⟨An, cn, Aw, cw, rfl, o1, o2⟩ := id PO
      clear o1 o2
      obtain ⟨V3, hV3⟩ : ∃ V, V = w3.alloc (.cells #[.int .i64 p.k, .slice An p.ns.length cn, .slice Aw p.ws.length cw] 34) := ⟨_, rfl⟩
      obtain ⟨gP, hgP⟩ : ∃ b, w3.heap.size = b := ⟨_, rfl⟩
      have e3 : Ext w3 V3 := by rw [hV3]; exact Ext.alloc _ _
      have bP : Blk V3 gP 34 #[.int .i64 p.k, .slice An p.ns.length cn, .slice Aw p.ws.length cw] := by rw [hV3]; exact Blk.new _ _ _ _ hgP
      have hgne : bm + 1 < gP := by have h1 := H0.out.2.2.2.2.1; have h2 := hx3.size; have h3 := HC.out.2.1.lt; omega
      have HGN := Lib.hid hgne
      have P3 := (PO.base0 HSZ.out).ext e3
      have x3 := hx3.trans e3
      have IC : ∀ (W : World) (c : ConfD) (lv rv : Value), Ext V0 W → PrfO w.heap.size W (.agg #[.int .i64 p.k, .slice An p.ns.length cn, .slice Aw p.ws.length cw]) p → Ints W lv c.l → Ints W rv c.r → confB m c = true → Calls Tryz.prog 9 #[.agg #[.int .i64 m.sy, .int .i64 m.st, .slice Am m.rules.length cm], .agg #[.int .i64 p.k, .slice An p.ns.length cn, .slice Aw p.ws.length cw], .agg #[.int .i64 c.q, lv, rv]] W fun e w' => e = .returned (.bool (covX s c)) ∧ Ext W w' :=
        fun W c lv rv hx hp hl hr hc => IsCovered_c _ lv rv _ m p s c W (H0.out.2.1.ext hx) H0.out.1 hp.l hF.ok hF.sb hF.n4 hF.sp hF.so hF.gl hF.gr hF.gc hF.len hl hr hc
      have CC := CheckContexts_c (.slice Am m.rules.length cm) (.agg #[.int .i64 p.k, .slice An p.ns.length cn, .slice Aw p.ws.length cw]) m p s V3.drew (H0.out.2.1.ext ((H0.out.2.2.2.2.2.trans x3).trans (Ext.drew _))) H0.out.1 (P3.ext (Ext.drew _)).l hF.ok hF.sb hF.n4 hF.sp hF.so hF.si hF.chk hF.len
      have HIC := Lib.hid IC
      have HF := Lib.hid (And.intro hF hcv)
      have HP := Lib.hid (And.intro bP (And.intro P3 x3))
      have bM3 := H0.out.2.2.1.ext ((H0.out.2.2.2.2.2.trans x3).trans (Ext.drew _))
      have bP3 := bP.ext (Ext.drew V3)
      have u0 := bM3.cell 0
      have u1 := bM3.cell 1
      have u2 := bM3.cell 2
      simp only [List.getElem?_toArray, List.getElem?_cons_zero, List.getElem?_cons_succ] at u0 u1 u2
      have v0 := bP3.cell 0
      have v1 := bP3.cell 1
      have v2 := bP3.cell 2
      simp only [List.getElem?_toArray, List.getElem?_cons_zero, List.getElem?_cons_succ] at v0 v1 v2
      clear IC hF hcv bP P3 x3 e3 hx3 PO m0 m1 m2 bM3 bP3 hgne
      go_upto_region 7 with fail
      try rw [← hV3]
      try rw [hgP]
      clear hV3 hgP
      go_wp2_with fail
      refine wp_region_ordT 10 (readsT [0, 1] (.stir 2 (readsT [3, 4, 5, 6] (.stir 7 (.stir 8 (readsT [9] .done)))))) (by kernel_rfl) (by kernel_rfl) (fun _ _ _ _ _ h => h) ?_
      simp only [readsT]
      repeat (refine wpOrdT_read (v := ?_) (by rfl) (Or.inl ⟨by rfl, fun x hx => ?_⟩) ?_; rotate_left; (· have au0 := hx.cell u0; have au1 := hx.cell u1; have au2 := hx.cell u2; have av0 := hx.cell v0; have av1 := hx.cell v1; have av2 := hx.cell v2; go_simp; try with_reducible rfl); try simp only [Act.put, List.setIfInBounds_toArray, List.set_cons_zero, List.set_cons_succ])
      refine wpOrdT_keep (by rfl) (fun K hK => ?_)
      go_simp
      go_at_call 8
      refine CC.mono ?_
      rintro e w4 ⟨rfl, hx4⟩
      refine hK _ _ hx4 ?_
      clear hK K CC
      have x4 : Ext V3 w4 := (Ext.drew _).trans hx4
      repeat (refine wpOrdT_read (v := ?_) (by rfl) (Or.inl ⟨by rfl, fun x hx => ?_⟩) ?_; rotate_left; (· have au0 := hx.cell u0; have au1 := hx.cell u1; have au2 := hx.cell u2; have av0 := hx.cell v0; have av1 := hx.cell v1; have av2 := hx.cell v2; go_simp; try with_reducible rfl); try simp only [Act.put, List.setIfInBounds_toArray, List.set_cons_zero, List.set_cons_succ])
      refine wpOrdT_keep (by rfl) (fun K hK => ?_)
      go_simp
      go_at_call 10
      refine (r8Blank_c _).mono ?_
      rintro e w5 ⟨u5, v5, rfl, o5, p5, hx5⟩
      have ICb := HIC.out w5 blankC u5 v5 (((H0.out.2.2.2.2.2.trans HP.out.2.2).trans x4).trans hx5) (HP.out.2.1.ext (x4.trans hx5)) o5.ints p5.ints (conf_blank H0.out.1)
      have e5 : covX s blankC = true := HF.out.2
      rw [e5] at ICb
      obtain ⟨A5, c5, rfl, _⟩ := o5.ints.form
      obtain ⟨A6, c6, rfl, _⟩ := p5.ints.form
      refine hK _ _ (hx4.trans hx5) ?_
      clear hK K e5
      refine wpOrdT_keep (by rfl) (fun K hK => ?_)
      go_simp
      go_at_call 9
      refine ICb.mono ?_
      rintro e w6 ⟨rfl, hx6⟩
      refine hK _ _ ((hx4.trans hx5).trans hx6) ?_
      clear hK K ICb
      repeat (refine wpOrdT_read (v := ?_) (by rfl) (Or.inl ⟨by rfl, fun x hx => ?_⟩) ?_; rotate_left; (· go_simp; try with_reducible rfl); try simp only [Act.put, List.setIfInBounds_toArray, List.set_cons_zero, List.set_cons_succ])
      refine wpOrdT_done ?_
      try simp only [List.drop_succ_cons, List.drop_zero]
      have x6 : Ext V w6 := (HP.out.2.2.trans x4).trans (hx5.trans hx6)
      have P6 := HP.out.2.1.ext (x4.trans (hx5.trans hx6))
      have B6 := HP.out.1.ext (x4.trans (hx5.trans hx6))
      have HL : Hid (CovL w.heap.size bm (bm + 1) gP V0 m p Am An Aw cm cn cw w6) := Lib.hid ⟨H0.out.2.2.2.2.2.trans x6, B6, P6, c0, _, _, _, _, HC.out.1, HC.out.2.1.ext x6, HC.out.2.2.1.ext x6, HC.out.2.2.2.ext x6⟩
      clear x6 P6 B6 x4 hx4 hx5 hx6 o5 p5 u0 u1 u2 v0 v1 v2 HP
      go_wp2
      go_loopw [9] (fun i wr => ∃ k : Nat, k ≤ 10 ∧ i = .int .i64 (k : Int) ∧ Hid (CovL w.heap.size bm (bm + 1) gP V0 m p Am An Aw cm cn cw wr)) (fun i _ => 10 - (intOf i).toNat)
      case atStart => exact ⟨0, by omega, rfl, HL⟩
      case round =>
        clear HL HC
        obtain ⟨k, hk, rfl, HR⟩ := hrel
        obtain ⟨c, B1, B2, d1, d2, hcb, bC, oL, oR⟩ := HR.out.c
        by_cases hlt : k < 10
        · have hd : decide ((k : Int) < 10) = true := decide_eq_true (by omega)
          have hd' : (k : Int) < 10 := by omega
          have hwk : IntKind.i64.wrap ((k : Int) + 1) = ((k + 1 : Nat) : Int) := by rw [show (k : Int) + 1 = ((k + 1 : Nat) : Int) by omega]; exact IntWalk.i64_in _ (by omega)
          have IC1 := HIC.out wr c _ _ HR.out.x HR.out.po oL.ints oR.ints hcb
          have bM := H0.out.2.2.1.ext HR.out.x
          have bP := HR.out.pb
          have m0 := bM.cell 0
          have m1 := bM.cell 1
          have m2 := bM.cell 2
          simp only [List.getElem?_toArray, List.getElem?_cons_zero, List.getElem?_cons_succ] at m0 m1 m2
          have p0 := bP.cell 0
          have p1 := bP.cell 1
          have p2 := bP.cell 2
          simp only [List.getElem?_toArray, List.getElem?_cons_zero, List.getElem?_cons_succ] at p0 p1 p2
          have q0 := bC.cell 0
          have q1 := bC.cell 1
          have q2 := bC.cell 2
          simp only [List.getElem?_toArray, List.getElem?_cons_zero, List.getElem?_cons_succ] at q0 q1 q2
          have HRC := Lib.hid (And.intro hcb (And.intro bC (And.intro oL oR)))
          clear hcb bC oL oR bM bP
          go_wp2_with fail
          refine IC1.mono ?_
          rintro e v1 ⟨rfl, hx1⟩
          clear IC1
          have HX1 := Lib.hid hx1
          cases hcov : covX s c with
          | false =>
            clear m0 m1 m2 p0 p1 p2 q0 q1 q2 hx1
            go_wp2
            go_ret
            exact ⟨rfl, (H0.out.2.2.2.1.trans HR.out.x).trans HX1.out⟩
          | true =>
            obtain ⟨hno, hcn, hnx⟩ := cov_next H0.out.1 HF.out.1 HRC.out.1 hcov
            have SM := StepMachine_c _ m c _ _ v1 (H0.out.2.1.ext (HR.out.x.trans hx1)) (HRC.out.2.2.1.ints.ext hx1) (HRC.out.2.2.2.ints.ext hx1) HRC.out.2.2.1.flat HRC.out.2.2.2.flat H0.out.1 HRC.out.1 hno
            obtain ⟨x, hx⟩ : ∃ x, stepI (lookI m c) c = x := ⟨_, rfl⟩
            rw [hx] at hcn hnx SM
            have HN := Lib.hid (And.intro hcn hnx)
            replace m0 := hx1.cell m0
            replace m1 := hx1.cell m1
            replace m2 := hx1.cell m2
            replace p0 := hx1.cell p0
            replace p1 := hx1.cell p1
            replace p2 := hx1.cell p2
            replace q0 := hx1.cell q0
            replace q1 := hx1.cell q1
            replace q2 := hx1.cell q2
            clear hx hcov hcn hnx hno hx1
            go_wp2_with fail
            refine SM.mono ?_
            rintro e v2 ⟨hx2, rfl | ⟨hfit, lw, rw_, rfl, o1, o2⟩⟩
            · have HX2 := Lib.hid hx2
              clear m0 m1 m2 p0 p1 p2 q0 q1 q2 hx2 SM
              go_wp2
              go_ret
              exact ⟨rfl, ((H0.out.2.2.2.1.trans HR.out.x).trans (HX1.out.trans HX2.out)).trans (Ext.alloc _ _)⟩
            · obtain ⟨D1, f1, rfl, _⟩ := o1.ints.form
              obtain ⟨D2, f2, rfl, _⟩ := o2.ints.form
              clear SM
              obtain ⟨V4, hV4⟩ : ∃ V, V = v2.alloc (.cells #[.int .i64 x.q, .slice D1 x.l.length f1, .slice D2 x.r.length f2] 29) := ⟨_, rfl⟩
              obtain ⟨gN, hgN⟩ : ∃ b, v2.heap.size = b := ⟨_, rfl⟩
              have e4 : Ext v2 V4 := by rw [hV4]; exact Ext.alloc _ _
              have bN : Blk V4 gN 29 #[.int .i64 x.q, .slice D1 x.l.length f1, .slice D2 x.r.length f2] := by rw [hV4]; exact Blk.new _ _ _ _ hgN
              have x4 : Ext wr V4 := (HX1.out.trans hx2).trans e4
              have hxc := HN.out.2 hfit
              have IC2 := HIC.out V4 x _ _ (HR.out.x.trans x4) (HR.out.po.ext x4) (o1.ints.ext e4) (o2.ints.ext e4) hxc
              rw [HN.out.1] at IC2
              have hwv : w.heap.size ≤ v1.heap.size := (((H0.out.2.2.2.1.trans HR.out.x).trans HX1.out)).size
              have o1' : OwnInts w.heap.size V4 (.slice D1 x.l.length f1) x.l := ownsRow_ext (ownsRow_base o1 hwv) e4
              have o2' : OwnInts w.heap.size V4 (.slice D2 x.r.length f2) x.r := ownsRow_ext (ownsRow_base o2 hwv) e4
              have bM := H0.out.2.2.1.ext (HR.out.x.trans x4)
              have bP := HR.out.pb.ext x4
              have bC4 := HRC.out.2.1.ext x4
              have H4 := Lib.hid (And.intro x4 (And.intro hxc (And.intro o1' o2')))
              clear m0 m1 m2 p0 p1 p2 q0 q1 q2 o1 o2 o1' o2' hfit hxc hx2 e4
              have m0 := bM.cell 0
              have m1 := bM.cell 1
              have m2 := bM.cell 2
              simp only [List.getElem?_toArray, List.getElem?_cons_zero, List.getElem?_cons_succ] at m0 m1 m2
              have p0 := bP.cell 0
              have p1 := bP.cell 1
              have p2 := bP.cell 2
              simp only [List.getElem?_toArray, List.getElem?_cons_zero, List.getElem?_cons_succ] at p0 p1 p2
              have n0 := bN.cell 0
              have n1 := bN.cell 1
              have n2 := bN.cell 2
              simp only [List.getElem?_toArray, List.getElem?_cons_zero, List.getElem?_cons_succ] at n0 n1 n2
              clear bM bP
              go_upto_region 13 with fail
              try rw [← hV4]
              try rw [hgN]
              clear hV4 hgN x4
              go_wp2_with fail
              refine IC2.mono ?_
              rintro e v3 ⟨rfl, hx3⟩
              clear IC2 m0 m1 m2 p0 p1 p2
              replace n0 := hx3.cell n0
              replace n1 := hx3.cell n1
              replace n2 := hx3.cell n2
              have bC3 := bC4.ext hx3
              have z0 := bC3.frozen 0
              have z1 := bC3.frozen 1
              have z2 := bC3.frozen 2
              have q0 := bC3.cell 0
              have q1 := bC3.cell 1
              have q2 := bC3.cell 2
              simp only [List.getElem?_toArray, List.getElem?_cons_zero, List.getElem?_cons_succ] at q0 q1 q2
              have HFIN : Hid (CovL w.heap.size bm (bm + 1) gP V0 m p Am An Aw cm cn cw (((v3.setCell ⟨bm + 1, 0, none⟩ (.int .i64 x.q)).setCell ⟨bm + 1, 1, none⟩ (.slice D1 x.l.length f1)).setCell ⟨bm + 1, 2, none⟩ (.slice D2 x.r.length f2))) := Lib.hid (by
                have xx := H4.out.1.trans hx3
                have hs0 : V0.heap.size ≤ bm + 1 := by have := H0.out.2.2.2.2.1; omega
                have hne : gP ≠ bm + 1 := by have := HGN.out; omega
                have b1 := bC3.set_ 0 (.int .i64 x.q)
                have b2 := b1.set_ 1 (.slice D1 x.l.length f1)
                have b3 := b2.set_ 2 (.slice D2 x.r.length f2)
                refine ⟨((((HR.out.x.trans xx).setCell (p := ⟨bm + 1, 0, none⟩) hs0 _).setCell (p := ⟨bm + 1, 1, none⟩) hs0 _).setCell (p := ⟨bm + 1, 2, none⟩) hs0 _), (((HR.out.pb.ext xx).far hne _).far hne _).far hne _, (((HR.out.po.ext xx).farX bC3 (by decide) (by decide) _ _).farX b1 (by decide) (by decide) _ _).farX b2 (by decide) (by decide) _ _, x, D1, D2, f1, f2, H4.out.2.1, by simpa using b3, own_farC (H4.out.2.2.1.ext hx3) bC3 (by decide) _ _ _, own_farC (H4.out.2.2.2.ext hx3) bC3 (by decide) _ _ _⟩)
              clear bC3 bC4 hx3
              go_wp2
              go_roundw
              case rel => exact ⟨k + 1, by omega, by go_num, HFIN⟩
              case measure => simp [intOf]; omega
        · have hd : decide ((k : Int) < 10) = false := decide_eq_false (by omega)
          have hd' : ¬ (k : Int) < 10 := by omega
          clear hcb bC oL oR
          go_wp2
          go_ret
          exact ⟨rfl, H0.out.2.2.2.1.trans HR.out.x⟩
    · have HX := Lib.hid hx3
      clear FA m0 m1 m2
      rcases hcd with rfl | rfl
      · go_wp2
        go_ret
        exact ⟨rfl, (H0.out.2.2.2.1.trans (H0.out.2.2.2.2.2.trans HX.out)).trans (Ext.alloc _ _)⟩
      · go_wp2
        go_ret
        exact ⟨rfl, (H0.out.2.2.2.1.trans (H0.out.2.2.2.2.2.trans HX.out)).trans (Ext.alloc _ _)⟩
end Go.Proofs.YtapjofbjedpmgaaGreat
end
section
namespace Go.Proofs.YtapjofbjedpmgaaGreat
open Go Go.RowKit Go.ChangeShapes Go.WideShapes Go.ChangeAt Go.Deep Go.Joins
theorem own18 : ownKnob Tryz.prog.godebug = none := by kernel_rfl
theorem laidOut18 : laidOutB Tryz.prog = true := by kernel_rfl
set_option maxRecDepth 100000 in
theorem lifted18 (os : Os) (started : os.Started) (H : Type) (enc : TypeId × Value → H) :
    ReturnsInHanded {} Tryz.checked os 3 .any (Rows.fnCoveredStepsSpec.pre6 enc Tryz.prog Tryz.f3 Rows.fnCoveredStepsRow.domain false) (Rows.fnCoveredStepsSpec.post enc Tryz.prog Tryz.f3 false true false false) := by
  refine returnsInHanded_of_change (C := Tryz.checked) own18 started (by kernel_rfl) Tryz.func3
    (ChangeSpec.witness6 (enc := enc) (C := Tryz.checked) false ⟨#[], #[.slice none 0 0, .slice none 0 0], []⟩ 8 (by kernel_rfl) (by kernel_rfl) (by kernel_rfl) (by kernel_rfl)) ?_
  intro W base args ds gs before hval0 hW hcnd _
  have hval : ∀ (j : Nat) t v, Tryz.f3.params[j]? = some t → args[j]? = some v → Value.okWide Tryz.prog W .any base t v := hval0
  have hW' := hW
  obtain ⟨p, q, hA0, hV, rfl, hfz, hnd⟩ := hW
  have hA : DataW.TrodAll enc Tryz.prog W 0 (fun _ => true) true Tryz.f3.params.toList args.toList ds p := hA0
  rw [Tryz.params3] at hA hval
  obtain ⟨v0, v1, d0, d1, p0, p1, hargs, rfl, rfl, h0, h1⟩ := trodAll_two hA
  obtain ⟨bs, hb0⟩ := open_bytesT (hval 0 _ v0 rfl (by rw [hargs]; rfl)) h0
  obtain ⟨ms, hb1⟩ := open_bytesT (hval 1 _ v1 rfl (by rw [hargs]; rfl)) h1
  subst hargs
  refine (law18_c v0 v1 bs ms W hb0 hb1).mono fun e W' ⟨he, hb⟩ => ?_
  subst he
  exact ⟨_, rfl, law_post laidOut18 (by kernel_rfl) (by kernel_rfl) Tryz.underlying4 rfl (fun ds hd => by
      match ds, hd.trans (show Tryz.f3.params.size = 2 by kernel_rfl) with
      | [d0, d1], _ => rfl) hW' hb⟩
theorem coveredSteps_holds : Rows.FnCoveredStepsSaid :=
  OpenClaim.holds_of_wide 3 Tryz.f3 rfl rfl rfl rfl rfl rfl rfl ⟨rfl, rfl, rfl, rfl, rfl⟩ rfl rfl rfl rfl rfl (by kernel_rfl) Tryz.func3 (by kernel_rfl)
    (of_decide_eq_true (by kernel_rfl)) (by unfold Func.isWrapper; first | (rw [if_pos (by decide +kernel)]; kernel_rfl) | (rw [if_neg (by decide +kernel)]; exact ⟨rfl, rfl⟩))
    (fun os started H enc _ => lifted18 os started H enc)
#print axioms coveredSteps_holds
end Go.Proofs.YtapjofbjedpmgaaGreat
end
