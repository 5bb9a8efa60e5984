/- Words for a list of texts and a code, as a call gives them.
Contract of the program's OneTapeTexts. The library's tables are as their text lays them.
Contracts of the reference's order of rules and of its test of a machine with several tapes. No condition. -/
import Derived.Test.YtfghojbbofobeaaGreatDoorW33
import Derived.Test.YtfghojbbofobeaaGreatDoorW34
import Derived.Test.YtfghojbbofobeaaGreatDoorW36
import Derived.Test.YtfghojbbofobeaaGreatDoorW37
import Derived.Test.YtfghojbbofobeaaGreatDoorW15
import Derived.Test.YtfghojbbofobeaaGreatDoorW11
section
set_option linter.unusedSimpArgs false
set_option linter.unusedVariables false
namespace Go.Proofs.YtfghojbbofobeaaGreatDoor
open Go Go.RowKit Go.Proofs
/-- A list of texts and a code, as a call gives them. -/
def TxRes (w : World) (S : List (List UInt8) → Int → Prop) (e : Ending) (w' : World) : Prop :=
  ∃ L kk tv, e = .returned (.tuple #[tv, .int .i64 kk]) ∧ w'.ownsRow w.heap.size 9 1 tv L.length (svB L) ∧ S L kk ∧ Ext w w'
theorem TxRes.none {w w' : World} {S : List (List UInt8) → Int → Prop} {k : Int} (hS : S [] k) (hX : Ext w w') : TxRes w S (.returned (.tuple #[.slice none 0 0, .int .i64 k])) w' :=
  ⟨[], k, _, rfl, World.ownsRow_nil .., hS, hX⟩
end Go.Proofs.YtfghojbbofobeaaGreatDoor
end
section
set_option linter.unusedSimpArgs false
set_option linter.unusedVariables false
namespace Go.Proofs.YtfghojbbofobeaaGreatDoor
open Go Go.RowKit Go.Proofs
set_option maxHeartbeats 400000
set_option maxRecDepth 20000 in
set_option maxHeartbeats 4000000 in
theorem OneTapeTexts_c (m : MultiD) (mv wv : Value) (ws : List (List Int)) (vs : List Value) (n : Int) (w : World) (hM : Mult w mv m) (hW : Row w 1 wv ws.length vs) (hI : ∀ i, (h : i < ws.length) → ∃ u, vs[i]? = some u ∧ Ints w u ws[i] ∧ Flat u) (hT : Tab w) :
    Calls Tryz.prog 9 #[mv, wv, .int .i64 n] w (TxRes w (OTxt m ws n)) := by
  obtain ⟨rv, rfl, hR⟩ := id hM
  obtain ⟨A, cA, rfl, _, _⟩ := hR.form
  obtain ⟨B, cB, rfl, hB1, hB2, hvl⟩ := id hW.form
  obtain ⟨g, hg⟩ : ∃ g, w.heap.size = g := ⟨_, rfl⟩
  obtain ⟨V, hV⟩ : ∃ V, V = w.alloc (.cells #[.int .i64 m.tp, .int .i64 m.sy, .int .i64 m.st, .slice A m.rules.length cA] 33) := ⟨_, rfl⟩
  have hX : Ext w V := by rw [hV]; exact Ext.alloc _ _
  have bM : Blk V g 33 #[.int .i64 m.tp, .int .i64 m.sy, .int .i64 m.st, .slice A m.rules.length cA] := by rw [hV]; exact Blk.new _ _ _ _ hg
  have VM := ValidMulti_c (.agg #[.int .i64 m.tp, .int .i64 m.sy, .int .i64 m.st, .slice A m.rules.length cA]) m V ⟨_, rfl, hR.ext hX⟩
  obtain ⟨v, hv⟩ : ∃ v, multiOk m = v := ⟨_, rfl⟩
  obtain ⟨d, hd⟩ : ∃ d, inB n 0 599 = d := ⟨_, rfl⟩
  have hTC := fun w => textsCode_c v n w
  rw [hv] at VM
  rw [hd] at hTC
  have HV := Lib.hid hv
  have HD := Lib.hid hd
  clear hv hd
  go_enter Tryz.func9, Tryz.ntmps9
  go_wp2_with fail
  try rw [← hV]
  try rw [hg]
  clear hV
  refine VM.mono ?_
  rintro e w1 ⟨rfl, hx1⟩
  go_wp2_with fail
  refine (hTC w1).mono ?_
  rintro e w' ⟨rfl, rfl⟩
  clear VM
  have hX1 := hX.trans hx1
  have bM1 := bM.ext hx1
  cases v with
  | false =>
    have HF := Lib.hid (OTxt.bad (ws := ws) (n := n) HV.out)
    rw [show codeT false d = 1 from rfl]
    go_wp2
    go_ret2
    exact TxRes.none HF.out hX1
  | true =>
    cases d with
    | false =>
      have HF := Lib.hid (OTxt.steps (ws := ws) HV.out HD.out)
      rw [show codeT true false = 2 from rfl]
      go_wp2
      go_ret2
      exact TxRes.none HF.out hX1
    | true =>
      rw [show codeT true true = 0 from rfl]
      have hn := inB_iff.1 HD.out
      have m0 := bM1.cell 0
      have m1 := bM1.cell 1
      have m2 := bM1.cell 2
      have m3 := bM1.cell 3
      simp only [List.getElem?_toArray, List.getElem?_cons_zero, List.getElem?_cons_succ] at m0 m1 m2 m3
      have OT := oneTape_c (.agg #[.int .i64 m.tp, .int .i64 m.sy, .int .i64 m.st, .slice A m.rules.length cA]) m w1 ⟨_, rfl, hR.ext hX1⟩ HV.out
      clear hTC
      go_wp2_with fail
      refine OT.mono ?_
      rintro e w2 ⟨hres, hx2⟩
      clear OT
      have hX2 := hX1.trans hx2
      have bM2 := bM1.ext hx2
      rcases hres with ⟨hnn, rfl⟩ | ⟨s, bx, bm, rvx, pvx, hs, rfl, hst, hok, l1, l2⟩
      · have HF := Lib.hid (OTxt.big (ws := ws) HV.out HD.out hnn)
        clear hnn
        go_wp2
        go_ret2
        exact TxRes.none HF.out (hX2.trans (Ext.alloc _ _))
      · have HS := Lib.hid hs
        have HOK := Lib.hid hok
        obtain ⟨Av, cv, rfl, _, _⟩ := id hst.rules.rules.form
        obtain ⟨gx, hgx⟩ : ∃ k, w2.heap.size = k := ⟨_, rfl⟩
        obtain ⟨W3, hW3⟩ : ∃ W3, W3 = w2.alloc (.cells #[.pointer (some ⟨bx, 0, none⟩)] 78) := ⟨_, rfl⟩
        have hX3 : Ext w2 W3 := by rw [hW3]; exact Ext.alloc _ _
        have bP : Blk W3 gx 78 #[.pointer (some ⟨bx, 0, none⟩)] := by rw [hW3]; exact Blk.new _ _ _ _ hgx
        have bM3 := bM2.ext hX3
        have hE3 := hX2.trans hX3
        clear m0 m1 m2 m3
        have m0 := bM3.cell 0
        have m1 := bM3.cell 1
        have m2 := bM3.cell 2
        have m3 := bM3.cell 3
        simp only [List.getElem?_toArray, List.getElem?_cons_zero, List.getElem?_cons_succ] at m0 m1 m2 m3
        have SO := StartOneTape_c m (.agg #[.int .i64 m.tp, .int .i64 m.sy, .int .i64 m.st, .slice A m.rules.length cA]) (.slice B ws.length cB) ws vs W3 ⟨_, rfl, hR.ext hE3⟩ (hW.ext hE3) (fun i hi => by
          obtain ⟨u, e, iu, hf⟩ := hI i hi
          exact ⟨u, e, iu.ext hE3, hf⟩)
        rw [hW3] at m0 m1 m2 m3
        clear hs hok
        go_wp2_with fail
        try rw [← hW3]
        try rw [hgx]
        clear hW3 m0 m1 m2 m3
        refine SO.mono ?_
        rintro e w4 ⟨lvs, rvs, rfl, ol4, or4, hx4⟩
        clear SO
        obtain ⟨Al, cl, rfl, _, _⟩ := id ol4.ints.form
        obtain ⟨Ar, cr, rfl, _, _⟩ := id or4.ints.form
        have hX4 := hE3.trans hx4
        by_cases hk : (startOC m ws).2 = 0
        · obtain ⟨hwok, hlen, hsc⟩ := startOC_ok HV.out hk
          have hcf := startO_conf HV.out HS.out hwok hlen
          have HK := Lib.hid hk
          rw [hsc] at ol4 or4 ⊢
          simp only at ol4 or4 ⊢
          have hmo := (one_ok HV.out HS.out).1
          have HRUN : Hid (∀ L kk, TRun (oneM m s) (startO m ws) n.toNat (txtO m s) L kk → OTxt m ws n L kk) := Lib.hid (fun L kk h => OTxt.run HV.out HD.out HS.out HK.out h)
          obtain ⟨x0, hx0⟩ : ∃ q, startO m ws = q := ⟨_, rfl⟩
          rw [hx0] at hcf ol4 or4 HRUN ⊢
          obtain ⟨W5, hW5⟩ : ∃ W, W = w4.alloc (.cells #[.int .i64 x0.q, .slice Al x0.l.length cl, .slice Ar x0.r.length cr] 52) := ⟨_, rfl⟩
          have hX5 : Ext w4 W5 := by rw [hW5]; exact Ext.alloc _ _
          have bC5 : Blk W5 w4.heap.size 52 #[.int .i64 x0.q, .slice Al x0.l.length cl, .slice Ar x0.r.length cr] := by rw [hW5]; exact Blk.new _ _ _ _ rfl
          obtain ⟨gc, hgc⟩ : ∃ k, w4.heap.size = k := ⟨_, rfl⟩
          rw [hgc] at bC5
          have zD := Ext.drew W5
          have hx45 := hx4.trans (hX5.trans zD)
          have hE5 := hE3.trans hx45
          have HPL := (hst.ext hX3).ext hx45
          have hENV : OtEnv W5.drew gx g m s := ⟨⟨bx, _, _, _, _, bP.ext hx45, HPL⟩, A, cA, bM3.ext hx45⟩
          have hTd := hT.ext hE5
          have hm := HV.out
          have hokk := HOK.out
          have hRT : Calls Tryz.prog 34 #[.agg #[.int .i64 (2 * m.sy), .int .i64 (s.1.length : Int), .slice Av s.2.length cv], .agg #[.int .i64 x0.q, .slice Al x0.l.length cl, .slice Ar x0.r.length cr], .int .i64 (n.toNat : Int), fnO gx g] W5.drew (TxtOut W5.drew (oneM m s) x0 n.toNat (txtO m s)) :=
            runTextsO_c W5.drew (oneM m s) x0 _ _ _ n.toNat gx g (txtO m s) (by omega) hmo hcf HPL.rules.rules (ol4.ext (hX5.trans zD)).ints (or4.ext (hX5.trans zD)).ints ol4.flat or4.flat
              (fun i v1 v2 X hrun hx h1 h2 f1 f2 => oneText_c gx g m s _ v1 v2 X hm hokk (hENV.ext hx) (run_confM hmo hcf hrun) h1 h2 f1 f2 (hTd.ext hx))
          rw [Int.toNat_of_nonneg hn.1] at hRT
          have p0 := (bP.ext hx45).cell 0
          have t0 := HPL.blk.cell 0
          have t1 := HPL.blk.cell 1
          have t2 := HPL.blk.cell 2
          have g0 := (bC5.ext zD).cell 0
          have g1 := (bC5.ext zD).cell 1
          have g2 := (bC5.ext zD).cell 2
          simp only [List.getElem?_toArray, List.getElem?_cons_zero, List.getElem?_cons_succ] at p0 t0 t1 t2 g0 g1 g2
          have hXs : w.heap.size ≤ W5.drew.heap.size := hE5.size
          clear hk hwok hlen hsc hx0 hcf hENV hmo hokk hm
          go_upto_region 10 with fail
          try rw [← hW5]
          try rw [hgc]
          clear hW5
          refine wp_region_ordT 10 (readsT [0, 1, 2, 3, 4, 5] (.stir 6 (.stir 7 (readsT [8, 9] .done)))) (by kernel_rfl) (by kernel_rfl) (fun _ _ _ _ _ h => h) ?_
          simp only [readsT]
          iterate 6 (refine wpOrdT_read (v := ?_) (by rfl) (Or.inl ⟨by rfl, fun x hx => ?_⟩) ?_; rotate_left; (· have a0 := hx.cell p0; have a1 := hx.cell t0; have a2 := hx.cell t1; have a3 := hx.cell t2; have a4 := hx.cell g0; have a5 := hx.cell g1; have a6 := hx.cell g2; go_simp; try with_reducible rfl); try simp only [Act.put, List.setIfInBounds_toArray, List.set_cons_zero, List.set_cons_succ])
          refine wpOrdT_keep (by rfl) (fun K hK => ?_)
          go_simp
          refine hK _ _ (Ext.refl _) ?_
          clear hK K
          refine wpOrdT_keep (by rfl) (fun K hK => ?_)
          go_simp
          go_at_call 34
          refine hRT.mono ?_
          rintro e w6 ⟨L, kk, tv, rfl, ho6, hTR, hx6⟩
          have HTR := Lib.hid hTR
          clear hTR
          obtain ⟨A6, c6, rfl, _, _, _⟩ := (ownsRow_row ho6).form
          refine hK _ _ hx6 ?_
          clear hK K
          iterate 2 (refine wpOrdT_read (v := ?_) (by rfl) (Or.inl ⟨by rfl, fun x hx => ?_⟩) ?_; rotate_left; (· go_simp; try with_reducible rfl); try simp only [Act.put, List.setIfInBounds_toArray, List.set_cons_zero, List.set_cons_succ])
          refine wpOrdT_done ?_
          try simp only [List.drop_succ_cons, List.drop_zero]
          have HFin : Hid (TxRes w (OTxt m ws n) (.returned (.tuple #[.slice A6 L.length c6, .int .i64 kk])) w6) := ⟨L, kk, _, rfl, ownsRow_base ho6 hXs, HRUN.out L kk HTR.out, hE5.trans hx6⟩
          clear ho6
          go_wp2
          go_ret2
          exact HFin.out
        · have HF := Lib.hid (OTxt.start HV.out HD.out HS.out hk)
          obtain ⟨⟨⟨sq, sl, sr⟩, sk⟩, hsc⟩ : ∃ q, startOC m ws = q := ⟨_, rfl⟩
          rw [hsc] at HF hk ol4 or4 ⊢
          simp only at HF hk ol4 or4 ⊢
          have hne : (sk != 0) = true := by simpa using hk
          clear hk hsc
          go_wp2
          go_ret2
          exact TxRes.none HF.out (hX4.trans (Ext.alloc _ _))
end Go.Proofs.YtfghojbbofobeaaGreatDoor
end
section
set_option linter.unusedVariables false
set_option linter.unusedSimpArgs false
namespace Go.Proofs.YtfghojbbofobeaaGreatDoor
open Go Go.RowKit Go.Proofs
set_option maxHeartbeats 400000
set_option maxRecDepth 20000 in
set_option maxHeartbeats 1000000 in
theorem l06Before_c (b1 o1 b2 o2 : Nat) (a b : MRuleD) (u v : Value) (w : World) (c0 : w.cell? ⟨b1, o1, none⟩ = some (.int .i64 a.st)) (c1 : w.cell? ⟨b1, o1 + 1, none⟩ = some u) (d0 : w.cell? ⟨b2, o2, none⟩ = some (.int .i64 b.st)) (d1 : w.cell? ⟨b2, o2 + 1, none⟩ = some v) (hu : Ints w u a.rd) (hv : Ints w v b.rd) :
    Calls Tryz.prog 47 #[.pointer (some ⟨b1, o1, none⟩), .pointer (some ⟨b2, o2, none⟩)] w fun e w' => e = .returned (.bool (decide (cmpM a b < 0))) ∧ Ext w w' := by
  obtain ⟨A, ca, rfl, _, _⟩ := hu.form
  obtain ⟨B, cb, rfl, _, _⟩ := hv.form
  have q0 := cellR c0
  have q1 := cellR c1
  have r0 := cellR d0
  have r1 := cellR d1
  obtain ⟨z, hz⟩ : ∃ z, decide (cmpM a b < 0) = z := ⟨_, rfl⟩
  rw [hz]
  have HZ := Lib.hid hz
  clear hz
  by_cases h1 : a.st < b.st
  · have HE : Hid (z = true) := by unfold Hid; rw [← HZ.out, cmpM, if_neg (by omega), if_pos h1]; rfl
    go_enter Tryz.func47, Tryz.ntmps47
    go_wp2_with fail
    refine wp_region_ext (by kernel_rfl) (by kernel_rfl) ?_
    repeat (go_big_quiet_step (fail))
    refine wpQuiet_nil ?_
    intro w2 hx2
    go_wp2_with fail
    go_ret
    exact ⟨by rw [HE.out]; rfl, hx2⟩
  · have h1b : decide (a.st < b.st) = false := decide_eq_false h1
    by_cases h2 : a.st = b.st
    · have h2b : (a.st == b.st) = true := by simp [h2]
      have CM := fun d os => l01Compare_c (Sort.grow (redrawn w d) os) _ _ a.rd b.rd (hu.ext (below_regrown _ _ _)) (hv.ext (below_regrown _ _ _))
      have HE : Hid (z = decide (cmpL a.rd b.rd < 0)) := by unfold Hid; rw [← HZ.out, cmpM, if_pos h2]
      generalize cmpL a.rd b.rd = y at *
      clear h1 h2
      go_enter Tryz.func47, Tryz.ntmps47
      go_wp2_with fail
      refine wp_region_ext (by kernel_rfl) (by kernel_rfl) ?_
      repeat (go_big_quiet_step ((go_at_call 81; exact Calls.extR (CM _ _))))
      refine wpQuiet_nil ?_
      intro w2 hx2
      go_wp2_with fail
      go_ret
      exact ⟨by rw [HE.out]; rfl, hx2⟩
    · have h2b : (a.st == b.st) = false := by simp [h2]
      have HE : Hid (z = false) := by unfold Hid; rw [← HZ.out, cmpM, if_neg h2, if_neg h1]; rfl
      clear h1 h2
      go_enter Tryz.func47, Tryz.ntmps47
      go_wp2_with fail
      refine wp_region_ext (by kernel_rfl) (by kernel_rfl) ?_
      repeat (go_big_quiet_step (fail))
      refine wpQuiet_nil ?_
      intro w2 hx2
      go_wp2_with fail
      go_ret
      exact ⟨by rw [HE.out]; rfl, hx2⟩
end Go.Proofs.YtfghojbbofobeaaGreatDoor
end
