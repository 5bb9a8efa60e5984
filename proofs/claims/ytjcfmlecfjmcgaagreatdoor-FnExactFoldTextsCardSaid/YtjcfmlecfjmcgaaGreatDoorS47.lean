/- Contract of the reference's FoldTexts.
Plain words: a list of texts of a run is short. -/
import Derived.Test.YtjcfmlecfjmcgaaGreatDoorS46
import Derived.Deep.DeepCutAuto
import Derived.Test.YtjcfmlecfjmcgaaGreatDoorS30
section
set_option linter.unusedSimpArgs false
set_option linter.unusedVariables false
namespace Go.Proofs.YtjcfmlecfjmcgaaGreatDoor
open Go Go.RowKit Go.Proofs
set_option maxHeartbeats 400000
/-- The configuration for which one stands can be shown. -/
theorem decAll_dig {m : MachD} (hm : machOk m = true) {s : List FP × List RuleD} (hs : foldOf m = some s) {c : ConfD} (hc : confB (foldM m s) c = true) (hk : (decAll m c).2 = 0) : CDig (decAll m c).1 := by
  obtain ⟨s1, s2, s3, s4, hrl⟩ := machOk_all hm
  have hd := decAll_at hm hs hc
  obtain ⟨⟨q0, q1⟩, ⟨b1, b2⟩, ⟨b3, b4⟩⟩ := conf_all hc
  obtain ⟨i, hi⟩ : ∃ i : Nat, c.q = i := ⟨c.q.toNat, by omega⟩
  have hil : i < s.1.length := by omega
  have hgd : s.1.getD c.q.toNat ⟨0, 0, 0⟩ = s.1[i] := by rw [hi, Int.toNat_natCast, List.getD_eq_getElem?_getD, List.getElem?_eq_getElem hil]; rfl
  rw [hgd] at hd
  rw [hd] at hk ⊢
  exact decP_dig (p := s.1[i]) (c := c) ((fold_ok hm hs).2 _ (List.getElem_mem hil)) s4 (fun z hz => by have := b2 z hz; omega) (fun z hz => by have := b4 z hz; omega) (sy := m.sy) (by omega) (by omega) hk
theorem MkSt.machO {base : Nat} {w : World} {bk b : Nat} {sy st : Int} {rs : List RuleD} {ps : List FP} {rv pv : Value} {vs : List Value} (h : MkSt base w bk b sy st rs ps rv pv vs) : MachO w bk ⟨sy, st, rs⟩ := by
  have k4 := h.blk.cell 4
  have k5 := h.blk.cell 5
  have k6 := h.blk.cell 6
  simp only [List.getElem?_toArray, List.getElem?_cons_zero, List.getElem?_cons_succ] at k4 k5 k6
  exact ⟨_, k4, k5, k6, h.rules.rules⟩
set_option maxRecDepth 20000 in
set_option maxHeartbeats 4000000 in
theorem specFoldTexts_c (w : World) (m : MachD) (c : ConfD) (n : Int) (mv lv rv : Value) (hr : Rules w mv m.rules) (hl : Ints w lv c.l) (hq : Ints w rv c.r) :
    Calls Tryz.prog 6 #[.agg #[.int .i64 m.sy, .int .i64 m.st, mv], .agg #[.int .i64 c.q, lv, rv], .int .i64 n] w (TxRes w (FTxt m c n)) := by
  obtain ⟨Am, cm, rfl, _, _⟩ := hr.form
  obtain ⟨Al, cl, rfl, _, _⟩ := hl.form
  obtain ⟨Aq, cq, rfl, _, _⟩ := hq.form
  obtain ⟨k, hk⟩ : ∃ k, w.heap.size = k := ⟨_, rfl⟩
  obtain ⟨W, hW⟩ : ∃ W, W = (w.alloc (.cells #[.int .i64 m.sy, .int .i64 m.st, .slice Am m.rules.length cm] 35)).alloc (.cells #[.int .i64 c.q, .slice Al c.l.length cl, .slice Aq c.r.length cq] 37) := ⟨_, rfl⟩
  have hX : Ext w W := by rw [hW]; exact (Ext.alloc _ _).trans (Ext.alloc _ _)
  have bM : Blk W k 35 #[.int .i64 m.sy, .int .i64 m.st, .slice Am m.rules.length cm] := by rw [hW]; exact (Blk.new _ _ _ _ hk).alloc _
  have bC : Blk W (k + 1) 37 #[.int .i64 c.q, .slice Al c.l.length cl, .slice Aq c.r.length cq] := by rw [hW]; exact Blk.new _ _ _ _ (by simp [hk])
  have m0 := bM.cell 0
  have m1 := bM.cell 1
  have m2 := bM.cell 2
  have c0 := bC.cell 0
  have c1 := bC.cell 1
  have c2 := bC.cell 2
  simp only [List.getElem?_toArray, List.getElem?_cons_zero, List.getElem?_cons_succ] at m0 m1 m2 c0 c1 c2
  have hMW : MachAt W k m := ⟨_, m0, m1, m2, hr.ext hX⟩
  have hCW : ConfP W (k + 1) c := ⟨_, _, c0, c1, c2, hl.ext hX, hq.ext hX⟩
  have hTC := l19Ask_c k (k + 1) m c n W hMW hCW
  obtain ⟨v, hv⟩ : ∃ v, (machOk m && confB m c) = v := ⟨_, rfl⟩
  obtain ⟨d, hd⟩ : ∃ d, inB n 0 599 = d := ⟨_, rfl⟩
  rw [hv, hd] at hTC
  have HV := Lib.hid hv
  have HD := Lib.hid hd
  clear hv hd m0 m1 m2 c0 c1 c2
  go_enter Tryz.func6, Tryz.ntmps6
  go_wp2_with fail
  try rw [← hW]
  try rw [hk]
  clear hW
  refine hTC.mono ?_
  rintro e w1 ⟨rfl, hx1⟩
  have hX1 := hX.trans hx1
  have bM1 := bM.ext hx1
  have bC1 := bC.ext hx1
  have m0 := bM1.cell 0
  have m1 := bM1.cell 1
  have m2 := bM1.cell 2
  have c0 := bC1.cell 0
  have c1 := bC1.cell 1
  have c2 := bC1.cell 2
  simp only [List.getElem?_toArray, List.getElem?_cons_zero, List.getElem?_cons_succ] at m0 m1 m2 c0 c1 c2
  cases v with
  | false =>
    have HF : Hid (FTxt m c n [] 1) := by
      unfold Hid FTxt
      rw [HV.out]
      exact ⟨rfl, rfl⟩
    rw [show codeT false d = 1 from rfl]
    go_wp2
    go_ret2
    exact TxRes.none HF.out hX1
  | true =>
    cases d with
    | false =>
      have HF : Hid (FTxt m c n [] 2) := by
        unfold Hid FTxt
        rw [HV.out, HD.out]
        exact ⟨rfl, rfl⟩
      rw [show codeT true false = 2 from rfl]
      go_wp2
      go_ret2
      exact TxRes.none HF.out hX1
    | true =>
      rw [show codeT true true = 0 from rfl]
      have hmc : machOk m = true ∧ confB m c = true := by
        have := HV.out
        simpa [Bool.and_eq_true] using this
      have hn := inB_iff.1 HD.out
      have HM := Lib.hid hmc.1
      have HC := Lib.hid hmc.2
      clear hmc
      have HF0 : Hid (∀ L kk, (if (startF m c).2 = 0 then ∃ s, foldOf m = some s ∧ TRun (foldM m s) (startF m c).1 n.toNat (txtF m) L kk else L = [] ∧ kk = (startF m c).2) → FTxt m c n L kk) := by
        unfold Hid
        intro L kk h
        unfold FTxt
        rw [HV.out, HD.out]
        exact h
      obtain ⟨⟨⟨sq, sl, sr⟩, sc⟩, hst⟩ : ∃ R, startF m c = R := ⟨_, rfl⟩
      have HST := Lib.hid hst
      have hFC := specFoldConfig_c m c _ _ _ w1 HM.out HC.out (hr.ext hX1) (hl.ext hX1) (hq.ext hX1)
      rw [hst] at hFC HF0
      simp only at HF0
      clear hst hTC
      go_wp2_with fail
      refine hFC.mono ?_
      rintro e w2 ⟨⟨lv2, rv2, base2, rfl, ol2, or2⟩, hx2⟩
      simp only at ol2 or2
      obtain ⟨A2, k2, rfl, _, _⟩ := ol2.ints.form
      obtain ⟨B2, j2, rfl, _, _⟩ := or2.ints.form
      by_cases hs0 : sc = 0
      · subst hs0
        obtain ⟨W2, hW2⟩ : ∃ W2, W2 = w2.alloc (.cells #[.int .i64 sq, .slice A2 sl.length k2, .slice B2 sr.length j2] 37) := ⟨_, rfl⟩
        have hX2 : Ext w2 W2 := by rw [hW2]; exact Ext.alloc _ _
        have bS : Blk W2 w2.heap.size 37 #[.int .i64 sq, .slice A2 sl.length k2, .slice B2 sr.length j2] := by rw [hW2]; exact Blk.new _ _ _ _ rfl
        obtain ⟨s, hs, hcf⟩ := startF_some (show (startF m c).2 = 0 by rw [HST.out])
        rw [HST.out] at hcf
        have hE2 := hx2.trans hX2
        have hX3 := hX1.trans hE2
        have hFo := l13MakeFold_c k m W2 (hMW.ext (hx1.trans hE2)) HM.out
        clear c0 c1 c2
        go_wp2_with fail
        try rw [← hW2]
        clear hW2
        refine hFo.mono ?_
        rintro e w3 ⟨hres, hx3⟩
        rcases hres with ⟨hn0, _⟩ | ⟨s', bk, rv3, pv3, vs3, hs', rfl, hpl, hok, l1, l2⟩
        · rw [hs] at hn0; cases hn0
        · rw [hs] at hs'
          injection hs' with hs'
          subst hs'
          have hXd := Ext.drew w3
          have hE4 := hE2.trans (hx3.trans hXd)
          have hX4 := hX1.trans hE4
          have bS4 := bS.ext (hx3.trans hXd)
          have bM4 := bM1.ext hE4
          have hok1 := (fold_ok HM.out hs).1
          have hRT : Calls Tryz.prog 22 #[.pointer (some ⟨bk, 4, none⟩), .agg #[.int .i64 sq, .slice A2 sl.length k2, .slice B2 sr.length j2], .int .i64 (n.toNat : Int)] w3.drew (TrOut w3.drew (foldM m s) ⟨sq, sl, sr⟩ n.toNat) :=
            l19Run_c bk (foldM m s) ⟨sq, sl, sr⟩ _ _ n.toNat w3.drew (hpl.machO.ext hXd) hok1 hcf (ol2.ext (hX2.trans (hx3.trans hXd))).ints (or2.ext (hX2.trans (hx3.trans hXd))).ints (by omega)
          rw [Int.toNat_of_nonneg hn.1] at hRT
          have HS := Lib.hid hs
          have HCF := Lib.hid hcf
          have g0 := bS4.cell 0
          have g1 := bS4.cell 1
          have g2 := bS4.cell 2
          simp only [List.getElem?_toArray, List.getElem?_cons_zero, List.getElem?_cons_succ] at g0 g1 g2
          clear hs hok1 hFo hFC hcf m0 m1 m2
          go_wp2_with fail
          refine wp_region_ordT 10 (readsT [0, 1, 2, 3, 4] (.stir 5 (readsT [6, 7, 8, 9] .done))) (by kernel_rfl) (by kernel_rfl) (fun _ _ _ _ _ h => h) ?_
          simp only [readsT]
          iterate 5 (refine wpOrdT_read (v := ?_) (by rfl) (Or.inl ⟨by rfl, fun x hx => ?_⟩) ?_; rotate_left; (· have a4 := hx.cell g0; have a5 := hx.cell g1; have a6 := hx.cell g2; go_simp; try with_reducible rfl); try simp only [Act.put, List.setIfInBounds_toArray, List.set_cons_zero, List.set_cons_succ])
          refine wpOrdT_keep (by rfl) (fun K hK => ?_)
          go_simp
          go_at_call 22
          refine hRT.mono ?_
          rintro e w5 (⟨T, tv, vs, hEnd, rfl, hL, hx5⟩ | ⟨hFull, rfl, hx5⟩)
          · obtain ⟨A5, c5, rfl, _, _, _⟩ := (ownsRow_row hL.own).form
            obtain ⟨NL, hNL⟩ : ∃ NL, T + 1 = NL := ⟨_, rfl⟩
            have HNL := Lib.hid hNL
            rw [hNL] at hL ⊢
            clear hNL
            have HEnd := Lib.hid hEnd
            clear hEnd
            refine hK _ _ hx5 ?_
            clear hK K
            iterate 4 (refine wpOrdT_read (v := ?_) (by rfl) (Or.inl ⟨by rfl, fun x hx => ?_⟩) ?_; rotate_left; (· go_simp; try with_reducible rfl); try simp only [Act.put, List.setIfInBounds_toArray, List.set_cons_zero, List.set_cons_succ])
            refine wpOrdT_done ?_
            try simp only [List.drop_succ_cons, List.drop_zero]
            obtain ⟨h0, hh0⟩ : ∃ h, w5.heap.size = h := ⟨_, rfl⟩
            obtain ⟨W6, hW6⟩ : ∃ W6, w5.alloc (.cells #[] 9) = W6 := ⟨_, rfl⟩
            have hX6 : Ext w5 W6 := by rw [← hW6]; exact Ext.alloc _ _
            have ho6 : W6.ownsRow h0 9 1 (.slice (some ⟨h0, 0, none⟩) 0 0) 0 (svB (firstT (foldM m s) ⟨sq, sl, sr⟩ (txtF m) 0)) := by
              rw [← hW6, ← hh0]
              exact World.ownsRow_made (base := w5.heap.size) (e := 9) (size := 1) w5 #[] 0 (by simp) (by unfold maxLen; omega) (by simp)
            clear g0 g1 g2
            go_wp2_with fail
            try rw [hh0]
            try rw [hW6]
            clear hW6
            have hnl : NL ≤ 600 := by have := HEnd.out.le; have := HNL.out; omega
            obtain ⟨i0, hi, hz0, hz1, hz2⟩ := info_parts strInfoT
            go_loopw [15, 16] (fun tv iv wr => ∃ i : Nat, i ≤ NL ∧ iv = .int .i64 (i : Int) ∧ wr.ownsRow h0 9 1 tv i (svB (firstT (foldM m s) ⟨sq, sl, sr⟩ (txtF m) i)) ∧ Ext w5 wr) (fun _ iv _ => NL - (intOf iv).toNat)
            case atStart => exact ⟨0, Nat.zero_le _, rfl, ho6, hX6⟩
            case round =>
              clear ho6 hX6
              obtain ⟨i, hiN, rfl, ho, hXr⟩ := hrel
              obtain ⟨At, ct, rfl, hct, hct2, _⟩ := (ownsRow_row ho).form
              by_cases hlt : i < NL
              · have i1 : (i : Int) < (NL : Int) := by omega
                have i2 : (0 : Int) ≤ (i : Int) := by omega
                obtain ⟨gl, cL, eL, q0, q1, q2⟩ := hL.at hlt
                obtain ⟨bl, br, ol, or_⟩ := hL.sides i hlt
                injection eL with eA _ eC
                subst eA eC
                have hrun : RunsTo (foldM m s) ⟨sq, sl, sr⟩ i := ⟨fun j hj => HEnd.out.runs.no j (by have := HNL.out; omega), fun j hj => HEnd.out.runs.fit j (by have := HNL.out; omega)⟩
                have hcx := run_conf HM.out HS.out HCF.out hrun
                have HDG := Lib.hid (decAll_dig HM.out HS.out hcx)
                have HSV := Lib.hid (firstT_svB (foldM m s) ⟨sq, sl, sr⟩ (txtF m) i)
                obtain ⟨x, hx0⟩ : ∃ x, cfgI (foldM m s) ⟨sq, sl, sr⟩ i = x := ⟨_, rfl⟩
                rw [hx0] at q0 ol or_ HDG HSV
                obtain ⟨Ai, ci, ei, _, _⟩ := ol.ints.form
                obtain ⟨Bi, di, fi, _, _⟩ := or_.ints.form
                rw [ei] at q1 ol
                rw [fi] at q2 or_
                clear hcx hrun hx0 ei fi
                obtain ⟨⟨⟨rq, rl, rr⟩, rc⟩, hR⟩ : ∃ R, decAll m x = R := ⟨_, rfl⟩
                have HTX : Hid (txtF m x = if rc = 0 then confT ⟨rq, rl, rr⟩ else []) := by unfold Hid txtF; rw [hR]
                rw [hR] at HDG
                simp only at HDG
                have hXw5 := hX4.trans (hx5.trans hXr)
                have hrX := hr.ext hXw5
                have bMr := bM4.ext (hx5.trans hXr)
                have m0 := bMr.cell 0
                have m1 := bMr.cell 1
                have m2 := bMr.cell 2
                simp only [List.getElem?_toArray, List.getElem?_cons_zero, List.getElem?_cons_succ] at m0 m1 m2
                have q0 := hXr.cell q0
                have q1 := hXr.cell q1
                have q2 := hXr.cell q2
                have EZ : Ext wr (wr.alloc zeroC).drew := (Ext.alloc _ _).trans (Ext.drew _)
                have E0 : Ext wr wr.drew := Ext.drew _
                have D := fun X (hx : Ext wr X) => specDecodeFold_c (.slice Am m.rules.length cm) m x (.slice Ai x.l.length ci) (.slice Bi x.r.length di) X (hrX.ext hx) ((ol.ext hXr).ext hx).ints ((or_.ext hXr).ext hx).ints (OwnInts.flatS or_)
                rw [hR] at D
                have D0 := D _ E0
                have DZ := D _ EZ
                clear D hR
                go_upto_region 15 with fail
                go_cut [17, 18] (fun s17 s18 wx => CutConf wr (⟨rq, rl, rr⟩, rc) s17 s18 wx)
                case first =>
                  have e0 := E0.cell m0
                  have e1 := E0.cell m1
                  have e2 := E0.cell m2
                  have e3 := E0.cell q0
                  have e4 := E0.cell q1
                  have e5 := E0.cell q2
                  have z0 := EZ.cell m0
                  have z1 := EZ.cell m1
                  have z2 := EZ.cell m2
                  have z3 := EZ.cell q0
                  have z4 := EZ.cell q1
                  have z5 := EZ.cell q2
                  clear m0 m1 m2 q0 q1 q2
                  go_region_law
                    (first
                      | (go_simp; go_at_call 23; ((with_reducible refine D0.mono ?_)); rintro e wC ⟨⟨lvS, rvS, bS, rfl, hlS, hrS⟩, hxC⟩; simp only at hlS hrS; obtain ⟨AS, cS, rfl, _, _⟩ := hlS.ints.form; obtain ⟨BS, eS, rfl, _, _⟩ := hrS.ints.form; have fin := CutConf.late (R := (⟨rq, rl, rr⟩, rc)) (E0.trans hxC) hlS hrS)
                      | (go_simp; go_at_call 23; ((with_reducible refine DZ.mono ?_)); rintro e wC ⟨⟨lvS, rvS, bS, rfl, hlS, hrS⟩, hxC⟩; simp only at hlS hrS; obtain ⟨AS, cS, rfl, _, _⟩ := hlS.ints.form; obtain ⟨BS, eS, rfl, _, _⟩ := hrS.ints.form; have zb := (Blk.drew (Blk.new wr wr.heap.size _ _ rfl)).ext hxC; have zc := zb.cell; have zf := zb.frozen; have fin := CutConf.early (R := (⟨rq, rl, rr⟩, rc)) (EZ.trans hxC) hlS hrS zb (Nat.le_refl _)))
                  all_goals
                    go_wp2_with fail
                    go_meet
                    exact fin
                case rest =>
                  rename World => wS
                  obtain ⟨gS, lvS, rvS, rfl, rfl, bS, hxS, hgS, iS1, iS2⟩ := hcut
                  simp only at bS iS1 iS2 ⊢
                  clear D0 DZ m0 m1 m2 q0 q1 q2 E0 EZ
                  obtain ⟨AS, cS, rfl, _, _⟩ := iS1.form
                  obtain ⟨BS, eS, rfl, _, _⟩ := iS2.form
                  have c0 := bS.cell 0
                  have c1 := bS.cell 1
                  have c2 := bS.cell 2
                  simp only [List.getElem?_toArray, List.getElem?_cons_zero, List.getElem?_cons_succ] at c0 c1 c2
                  have hCP : ConfP wS gS ⟨rq, rl, rr⟩ := ⟨_, _, c0, c1, c2, iS1, iS2⟩
                  by_cases hrc : rc = 0
                  · subst hrc
                    have HT2 : Hid (txtF m x = confT ⟨rq, rl, rr⟩) := by unfold Hid; rw [HTX.out, if_pos rfl]
                    have hSh := l05Show_c gS ⟨rq, rl, rr⟩ wS hCP (HDG.out rfl)
                    rw [← HT2.out] at hSh
                    obtain ⟨st, hst⟩ : ∃ st, bsS (txtF m x) = st := ⟨_, rfl⟩
                    rw [hst] at hSh HSV
                    clear HDG HTX HT2 hst c0 c1 c2 hCP
                    go_wp2_with fail
                    refine hSh.mono ?_
                    rintro e wT ⟨rfl, hxT⟩
                    have hXT := hxS.trans hxT
                    have hs5 := (hXr.trans hXT).size
                    go_wp2_with (at_builtin; refine wpList_append_own_at _ rfl _ _ 30 rfl h0 9 i0 (.string ⟨#[]⟩) 1 16 Tryz.underlying30 hi hz0 hz1 hz2 rfl (by decide) _ _ _ rfl ((ownsRow_ext ho hXT).alloc _) ⟨wT.heap.size, 0, none⟩ 1 1 [.string st] rfl rfl ?c1 ?c2 ?c3 ?c4 ?c5 ?_)
                    case c1 =>
                      intro j u hj
                      match j, hj with
                      | 0, hj => simp at hj; subst hj; simp [Addr.add]
                    case c2 => intro u hu; simp at hu; subst hu; rfl
                    case c3 => unfold maxLen; omega
                    case c4 => omega
                    case c5 => simp; omega
                    intro v' w9 hown' hgrow _ _
                    have hOA := (ownsRow_ext ho hXT).alloc (.cells #[.string st] 9)
                    have HO : Hid (w9.ownsRow h0 9 1 v' (i + 1) (svB (firstT (foldM m s) ⟨sq, sl, sr⟩ (txtF m) (i + 1)))) := by unfold Hid; rw [HSV.out]; exact hown'
                    have HX9 : Hid (Ext w5 w9) := Lib.hid (((hXr.trans hXT).trans (Ext.alloc wT _)).grown hgrow (fun b hb => by have := (hOA.lt b hb).1; omega))
                    clear hown' hgrow hOA ho
                    go_wp2
                    go_roundw
                    case rel => exact ⟨i + 1, by omega, by go_num, HO.out, HX9.out⟩
                    case measure => simp [intOf]; omega
                  · have HT2 : Hid (txtF m x = []) := by unfold Hid; rw [HTX.out, if_neg hrc]
                    have hst : bsS (txtF m x) = ⟨#[]⟩ := by rw [HT2.out]
                    rw [hst] at HSV
                    have hne : (rc == 0) = false := by simpa using hrc
                    obtain ⟨wT, hwT⟩ : ∃ wT, wS = wT := ⟨_, rfl⟩
                    subst hwT
                    have hXT := hxS
                    clear HDG HTX HT2 hst c0 c1 c2 hCP hrc
                    have hs5 := (hXr.trans hXT).size
                    go_wp2_with (at_builtin; refine wpList_append_own_at _ rfl _ _ 30 rfl h0 9 i0 (.string ⟨#[]⟩) 1 16 Tryz.underlying30 hi hz0 hz1 hz2 rfl (by decide) _ _ _ rfl ((ownsRow_ext ho hXT).alloc _) ⟨wS.heap.size, 0, none⟩ 1 1 [.string ⟨#[]⟩] rfl rfl ?c1 ?c2 ?c3 ?c4 ?c5 ?_)
                    case c2 => first | rfl | (intro u hu; simp at hu; subst hu; rfl)
                    case c3 => unfold maxLen; omega
                    case c4 => omega
                    case c5 => first | omega | (simp; omega)
                    intro v' w9 hown' hgrow _ _
                    have hOA := (ownsRow_ext ho hXT).alloc (.cells #[.string ⟨#[]⟩] 9)
                    have HO : Hid (w9.ownsRow h0 9 1 v' (i + 1) (svB (firstT (foldM m s) ⟨sq, sl, sr⟩ (txtF m) (i + 1)))) := by unfold Hid; rw [HSV.out]; exact hown'
                    have HX9 : Hid (Ext w5 w9) := Lib.hid (((hXr.trans hXT).trans (Ext.alloc wS _)).grown hgrow (fun b hb => by have := (hOA.lt b hb).1; omega))
                    clear hown' hgrow hOA ho
                    go_wp2
                    go_roundw
                    case rel => exact ⟨i + 1, by omega, by go_num, HO.out, HX9.out⟩
                    case measure => simp [intOf]; omega
              · obtain rfl : i = NL := by omega
                have HFin : Hid (TxRes w (FTxt m c n) (.returned (.tuple #[.slice At i ct, .int .i64 0])) wr) := ⟨firstT (foldM m s) ⟨sq, sl, sr⟩ (txtF m) i, 0, _, rfl, by rw [firstT_length]; exact ownsRow_base ho (by have := (hX4.trans hx5).size; omega), HF0.out _ 0 (by (first | rw [if_pos trivial] | rw [if_pos rfl]); exact ⟨s, HS.out, .inl ⟨T, HEnd.out, by rw [HNL.out]; rfl, rfl⟩⟩), hX4.trans (hx5.trans hXr)⟩
                clear ho
                go_wp2
                go_ret2
                exact HFin.out
          · have HF : Hid (FTxt m c n [] 5) := Lib.hid (HF0.out [] 5 (by (first | rw [if_pos trivial] | rw [if_pos rfl]); exact ⟨s, HS.out, .inr ⟨hFull, rfl, rfl⟩⟩))
            clear hFull
            refine hK _ _ hx5 ?_
            clear hK K
            iterate 4 (refine wpOrdT_read (v := ?_) (by rfl) (Or.inl ⟨by rfl, fun x hx => ?_⟩) ?_; rotate_left; (· go_simp; try with_reducible rfl); try simp only [Act.put, List.setIfInBounds_toArray, List.set_cons_zero, List.set_cons_succ])
            refine wpOrdT_done ?_
            try simp only [List.drop_succ_cons, List.drop_zero]
            go_wp2
            go_ret2
            exact TxRes.none HF.out (hX4.trans hx5)
      · have HF : Hid (FTxt m c n [] sc) := Lib.hid (HF0.out [] sc (by rw [if_neg hs0]; exact ⟨rfl, rfl⟩))
        have hne : (sc != 0) = true := by simpa using hs0
        have hX3 := (hX1.trans hx2).trans (Ext.alloc w2 (.cells #[.int .i64 sq, .slice A2 sl.length k2, .slice B2 sr.length j2] 37))
        clear HF0 hs0
        go_wp2
        go_ret2
        exact TxRes.none HF.out hX3
end Go.Proofs.YtjcfmlecfjmcgaaGreatDoor
end
section
set_option linter.unusedSimpArgs false
namespace Go.Proofs.YtjcfmlecfjmcgaaGreatDoor
open Go Go.RowKit Go.Proofs
theorem FTxt.len {m : MachD} {c : ConfD} {n : Int} {L : List (List UInt8)} {k : Int} (h : FTxt m c n L k) : L.length ≤ 600 := by
  unfold FTxt at h
  split at h
  · split at h
    · rename_i h1
      have h1 := inB_iff.1 h1
      split at h
      · obtain ⟨s, _, ht⟩ := h
        rcases ht with ⟨T, hE, rfl, _⟩ | ⟨_, rfl, _⟩
        · have := hE.le
          simp
          omega
        · simp
      · rw [h.1]; simp
    · rw [h.1]; simp
  · rw [h.1]; simp
end Go.Proofs.YtjcfmlecfjmcgaaGreatDoor
end
