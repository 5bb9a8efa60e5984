/- Contract of the reference's search. The machine is valid. -/
import Derived.Test.YtdkdmcaehinkhaaDoorGrow
namespace Go.Proofs.YtdkdmcaehinkhaaDoor
open Go Go.RowKit Go.Proofs
set_option maxHeartbeats 400000
theorem any_take {l : List (List Int)} {k : Nat} (h : k < l.length) (f : List Int → Bool) : (l.take (k + 1)).any f = ((l.take k).any f || f l[k]) := by
  rw [List.take_succ_eq_append_getElem h, List.any_append]; simp
set_option maxRecDepth 20000 in
set_option maxHeartbeats 4000000 in
theorem l26Find_c (b : Nat) (m : MachD) (rv : Value) (n : Nat) (bud : Int) (ea : Bool) (w : World) (hM : MachBlk w b m rv) (hr : Rules w rv m.rules) (hmk : MOk m) (n1 : 1 ≤ n) (n2 : n ≤ 9) :
    Calls Tryd.prog 27 #[.pointer (some ⟨b, 0, none⟩), .int .i64 n, .int .i64 bud, .bool ea] w (FindSRes w m n bud ea) := by
  obtain ⟨i0, hi, hz0, hz1, hz2⟩ := info_parts rowInfo
  go_enter Tryd.func27, Tryd.ntmps27
  go_wp2_with fail
  refine (l26Starts_c b m rv n w hM hr hmk n1 n2).mono ?_
  rintro e w1 ⟨u, rfl, ho, hX1⟩
  have HI := Lib.hid (iterS_zero hmk n1)
  have HS := Lib.hid (starts_ok hmk n1)
  have hsl := startsIn_length m n
  have hl6 := hmk.len2
  have HMK := Lib.hid hmk
  clear hmk
  generalize startsIn m n = ls at *
  obtain ⟨Al, cl, rfl, h6, h6'⟩ := ho.rows.form
  go_wp2
  go_loopw [13, 14] (fun p i wr => ∃ k : Nat, k ≤ ls.length ∧ i = .int .i64 k ∧ p = .bool (!(ls.take k).any mayB) ∧ Ext w1 wr) (fun _ i _ => ls.length - (intOf i).toNat)
  case atStart => exact ⟨0, Nat.zero_le _, rfl, by simp, Ext.refl _⟩
  case round =>
    obtain ⟨k, hk, rfl, rfl, hx2⟩ := hrel
    by_cases hlt : k < ls.length
    · obtain ⟨b', off, rfl, hc⟩ := ho.rows.at hlt
      obtain ⟨A1, d1, c0, r0⟩ := hc k hlt
      have c0 := hx2.cell c0
      have r0 := r0.ext hx2
      have HA := Lib.hid (any_take hlt mayB)
      have hms := mayS_eq (HS.out ls[k] (List.getElem_mem hlt))
      have h3l : 3 ≤ ls[k].length := by have := (HS.out ls[k] (List.getElem_mem hlt)).len; omega
      generalize ls[k] = y at *
      clear hc
      cases hq : (ls.take k).any mayB with
      | true =>
        rw [hq] at HA
        clear hq
        go_wp2
        go_roundw
        case rel => exact ⟨k + 1, by omega, by go_num, by rw [HA.out]; rfl, hx2⟩
        case measure => simp [intOf]; omega
      | false =>
        rw [hq] at HA
        clear hq
        go_wp2_with fail
        refine (l26May_c _ y _ r0 h3l).mono ?_
        rintro e w' ⟨rfl, rfl⟩
        rw [hms]
        go_wp2
        go_roundw
        case rel => exact ⟨k + 1, by omega, by go_num, by rw [HA.out]; simp, hx2⟩
        case measure => simp [intOf]; omega
    · have HK := Lib.hid (show ls.take k = ls from List.take_of_length_le (by omega))
      have ho2 := ho.ext hx2
      have hX2 := hX1.trans hx2
      clear ho
      rw [HK.out]
      generalize hab : ls.any mayB = ab at *
      generalize wr = W2 at *
      go_wp2
      go_loopw [12, 13, 15] (fun l p i wr => ∃ (k : Nat) (s : List (List Int) × Bool), s = iterS m n k ∧ i = .int .i64 k ∧ p = .bool (!s.2) ∧ (∀ j < k, j < (iterS m n j).1.length ∧ ¬ stopS m n bud ea j) ∧ s.1.length ≤ 8000 ∧ OwnIntRows w.heap.size wr l s.1 ∧ Ext w wr) (fun _ _ i _ => 2001 - (intOf i).toNat)
      case atStart => exact ⟨0, (ls, ab), by rw [HI.out], rfl, rfl, fun j hj => by omega, by simp; omega, ho2, hX2⟩
      case round =>
        clear ho2 hX2 HI hx2
        obtain ⟨k, s, hsk, rfl, rfl, hgo, hs8, ho, hX⟩ := hrel
        obtain ⟨Am, cm, rfl, h7, h7'⟩ := ho.rows.form
        have HSK := Lib.hid hsk
        have HGO := Lib.hid hgo
        clear hsk hgo
        by_cases hlt2 : k < s.1.length
        · have HLT := Lib.hid hlt2
          obtain ⟨p, hp⟩ : ∃ p, (!s.2) = p := ⟨_, rfl⟩
          rw [hp]
          have HP := Lib.hid hp
          clear hp
          go_upto_region 10 with fail
          go_cut [56] (fun v wx => v = .bool ((!p && ea) || decide (2000 < s.1.length) || ((k : Int) == bud)) ∧ wx = wr)
          case first =>
            cases p with
            | true =>
              by_cases h2 : 2000 < s.1.length
              · have t1 : decide (2000 < s.1.length) = true := by simp [h2]
                go_wp2_with fail
                go_meet
                exact ⟨by simp [h2] <;> (intros; omega), rfl⟩
              · have t1 : decide (2000 < s.1.length) = false := by simp [h2]
                go_wp2_with fail
                go_meet
                exact ⟨by simp [h2] <;> (intros; omega), rfl⟩
            | false =>
              cases ea with
              | true =>
                go_wp2_with fail
                go_meet
                exact ⟨by simp, rfl⟩
              | false =>
                by_cases h2 : 2000 < s.1.length
                · have t1 : decide (2000 < s.1.length) = true := by simp [h2]
                  go_wp2_with fail
                  go_meet
                  exact ⟨by simp [h2] <;> (intros; omega), rfl⟩
                · have t1 : decide (2000 < s.1.length) = false := by simp [h2]
                  go_wp2_with fail
                  go_meet
                  exact ⟨by simp [h2] <;> (intros; omega), rfl⟩
          case rest =>
            obtain ⟨rfl, hww⟩ := hcut
            have hstop : ((!p && ea) || decide (2000 < s.1.length) || ((k : Int) == bud)) = true ↔ stopS m n bud ea k := by
              unfold stopS
              rw [← HSK.out, ← HP.out]
              simp [or_assoc]
            have HST := Lib.hid hstop
            clear hstop
            generalize ((!p && ea) || decide (2000 < s.1.length) || ((k : Int) == bud)) = q at *
            have hww' := hww.symm
            subst hww'
            clear hww
            cases q with
            | true =>
              have HE : Hid (FindEnds m n bud ea k) := ⟨HGO.out, .inr (HST.out.1 rfl)⟩
              go_wp2
              (try simp only [Exit.inBlock, Exit.then]); refine bodyPost_ret (results_tmp4 rfl _ _ _) rfl ?_
              refine ⟨k, HE.out, ⟨.slice Am s.1.length cm, ?_, ?_⟩, hX⟩
              · rw [← HSK.out]
                have e1 : (if k < s.1.length then (k : Int) else (s.1.length : Int)) = k := if_pos hlt2
                have e2 : (!decide (k < s.1.length) && decide (s.1.length ≤ 2000)) = false := by simp [hlt2]
                rw [e1, e2, HP.out]
                rfl
              · rw [← HSK.out]
                exact ho
            | false =>
              have hns : ¬ stopS m n bud ea k := fun h => by have := HST.out.2 h; cases this
              have hle : s.1.length ≤ 2000 := by
                have : ¬ 2000 < (iterS m n k).1.length := fun h => hns (.inr (.inl h))
                rw [← HSK.out] at this
                omega
              have HNS := Lib.hid hns
              clear hns HST
              have HNE : Hid (∀ j < k + 1, j < (iterS m n j).1.length ∧ ¬ stopS m n bud ea j) := fun j hj => by
                by_cases c : j = k
                · rw [c]; exact ⟨by rw [← HSK.out]; exact hlt2, HNS.out⟩
                · exact HGO.out j (by omega)
              have HNOK := Lib.hid (iterS_ok HMK.out n1 k (fun j hj => (HGO.out j hj).1))
              obtain ⟨b', off, rfl, hc⟩ := ho.rows.at hlt2
              obtain ⟨A1, d1, c0, r0⟩ := hc k hlt2
              have NOK := Lib.hid (HNOK.out s.1[k] (by rw [← HSK.out]; exact List.getElem_mem hlt2))
              have HST : Hid (iterS m n (k + 1) = addAll s (predsTo m s.1[k] m.rules.length)) := by
                show stepS m (iterS m n k) k = _
                rw [← HSK.out]
                unfold stepS
                rw [List.getD_eq_getElem?_getD, List.getElem?_eq_getElem hlt2]
                rfl
              generalize s.1[k] = y at *
              clear hc
              go_wp2_with fail
              refine (l26Backs_c b m rv _ y n wr (Blk.ext hM hX) (hr.ext hX) r0 HMK.out NOK.out n1 n2).mono ?_
              rintro e w5 ⟨u5, rfl, ⟨us, u1, u2, u3⟩, hx5⟩
              obtain ⟨vs, inv⟩ := GrowInv.start ho hX hx5 u1 u2
              have HU3 := Lib.hid u3
              have HPO := Lib.hid (predsTo_ok HMK.out n1 NOK.out m.rules.length (Nat.le_refl _))
              have hpl := predsTo_length m y m.rules.length
              have hB := hX.size
              clear c0 r0 u1 u2 u3 ho
              generalize predsTo m y m.rules.length = pr at *
              generalize wr = W3 at *
              obtain ⟨Ap, cp, rfl, h8, h8', _⟩ := (ownsRow_row inv.rest.lown).form
              go_wp2
              go_loopw [12, 13, 17] (fun l p i wr => ∃ q : Nat, q ≤ pr.length ∧ i = .int .i64 q ∧ ∃ vs, p = .bool (!(addAll s (pr.take q)).2) ∧ GrowInv W3.heap.size w (.slice Ap pr.length cp) pr us q (addAll s (pr.take q)).1 l vs wr) (fun _ _ i _ => pr.length - (intOf i).toNat)
              case atStart => exact ⟨0, Nat.zero_le _, rfl, vs, by simp [addAll, HP.out], by simpa [addAll] using inv⟩
              case round =>
                clear inv
                obtain ⟨q, hq, rfl, vs, rfl, inv⟩ := hrel
                by_cases hlt3 : q < pr.length
                · have HT := Lib.hid (addAll_take s pr q hlt3)
                  have hlen := (addAll_length s (pr.take q)).2
                  have hlen2 : (addAll s (pr.take q)).1.length ≤ 8000 := by simp at hlen; omega
                  obtain ⟨g, rfl, hgb, hgl⟩ := own_at inv.rest.lown (by omega)
                  obtain ⟨x, hxu, hrx⟩ := inv.rest.lrows q hlt3
                  have q0 := inv.rest.lown.cellAt q (by omega)
                  rw [hxu] at q0
                  have PNO := Lib.hid (HPO.out pr[q] (List.getElem_mem hlt3))
                  have hms := mayS_eq PNO.out
                  have h3l : 3 ≤ pr[q].length := by have := PNO.out.len; omega
                  obtain ⟨Ax, cx, rfl, _, _⟩ := hrx.ints.form
                  clear hlen
                  generalize addAll s (pr.take q) = t at *
                  generalize pr[q] = z at *
                  obtain ⟨Av, cv, rfl, h9, h9', _⟩ := (ownsRow_row inv.rest.own).form
                  go_wp2_with fail
                  refine (l10Row_c _ _ _ t.1 z inv.rows.rows hrx.ints).mono ?_
                  rintro e w6 ⟨⟨kk, rfl, hkk⟩, hx6⟩
                  have inv6 := inv.ext hx6
                  have hrx6 := hrx.ext hx6
                  have q6 := hx6.cell q0
                  by_cases hin : z ∈ t.1
                  · have hinb : decide (kk < 0) = false := by rw [hkk]; simp [hin]
                    have HA := Lib.hid (show addOne t z = t by simp [addOne, hin])
                    clear hin hkk
                    go_wp2
                    go_roundw
                    case rel => exact ⟨q + 1, by omega, by go_num, vs, by rw [HT.out, HA.out], by rw [HT.out, HA.out]; exact inv6.skip⟩
                    case measure => simp [intOf]; omega
                  · have hinb : decide (kk < 0) = true := by rw [hkk]; simp [hin]
                    have HA := Lib.hid (show addOne t z = (t.1 ++ [z], t.2 || mayB z) by simp [addOne, hin])
                    have hszx := inv6.ex.size
                    have hsx6 := hx6.size
                    have own6 := inv6.rest.own
                    clear hin hkk
                    go_wp2_with (at_builtin; refine wpList_append_own_at _ rfl _ _ 26 rfl w.heap.size 38 i0 (.slice none 0 0) 1 24 Tryd.underlying26 hi hz0 hz1 hz2 rfl (by decide) _ _ _ rfl (own6.alloc _) ⟨w6.heap.size, 0, none⟩ 1 1 [.slice Ax z.length cx] rfl rfl (cell_one_new _ _ _) ?c2 ?c3 ?c4 ?c5 ?_)
                    case c2 => intro u hu; simp at hu; subst hu; rfl
                    case c3 => unfold maxLen; omega
                    case c4 => omega
                    case c5 => simp; omega
                    intro v' w7 hown7 hg7 _ hloc
                    have hlw : ∀ g', (Value.slice (some ⟨g, 0, none⟩) pr.length cp).ownBlock = some g' → g' < w6.heap.size := fun g' hg' => by
                      simp [Value.ownBlock] at hg'; subst hg'
                      omega
                    have inv7 := GrowInv.added hB inv6 HU3.out hxu hrx6 hlw hown7 hg7 (by simpa using hloc)
                    obtain ⟨A', c', rfl, _, _, _⟩ := (ownsRow_row hown7).form
                    have r7 : Ints w7 (.slice Ax z.length cx) z := by
                      obtain ⟨x5, e5, h5⟩ := inv7.rest.rows t.1.length (by simp)
                      have hl5 := inv6.rest.own.1
                      rw [List.getElem?_append_right (by omega)] at e5
                      simp [hl5] at e5
                      subst e5
                      simpa using h5.ints
                    have q7 := inv7.rest.lown.cellAt q (by omega)
                    rw [hxu] at q7
                    have INV := Lib.hid inv7
                    clear inv7 inv6 inv own6 hown7 hg7 hloc q0 q6 hrx hrx6
                    cases hb : t.2 with
                    | true =>
                      rw [hb] at HA
                      clear hb
                      go_wp2
                      go_roundw
                      case rel => exact ⟨q + 1, by omega, by go_num, _, by rw [HT.out, HA.out]; rfl, by rw [HT.out, HA.out]; exact INV.out⟩
                      case measure => simp [intOf]; omega
                    | false =>
                      rw [hb] at HA
                      clear hb
                      go_wp2_with fail
                      refine (l26May_c _ z _ r7 h3l).mono ?_
                      rintro e w' ⟨rfl, rfl⟩
                      rw [hms]
                      go_wp2
                      go_roundw
                      case rel => exact ⟨q + 1, by omega, by go_num, _, by rw [HT.out, HA.out]; simp, by rw [HT.out, HA.out]; exact INV.out⟩
                      case measure => simp [intOf]; omega
                · have HK3 := Lib.hid (show pr.take q = pr from List.take_of_length_le (by omega))
                  have hlen := (addAll_length s pr).2
                  have HF : Hid (iterS m n (k + 1) = addAll s (pr.take q)) := by unfold Hid; rw [HST.out, HK3.out]
                  have hlen2 : (addAll s (pr.take q)).1.length ≤ 8000 := by rw [HK3.out]; omega
                  clear hlen
                  generalize addAll s (pr.take q) = t at *
                  have hro := inv.rows
                  have hex := inv.ex
                  clear inv
                  go_wp2
                  go_roundw
                  case rel => exact ⟨k + 1, t, HF.out.symm, by go_num, rfl, HNE.out, hlen2, hro, hex⟩
                  case measure => simp [intOf]; omega
        · have hE : FindEnds m n bud ea k := ⟨HGO.out, .inl (by rw [← HSK.out]; exact hlt2)⟩
          have HE := Lib.hid hE
          clear hE
          go_wp2
          (try simp only [Exit.inBlock, Exit.then]); refine bodyPost_ret (results_tmp4 rfl _ _ _) rfl ?_
          refine ⟨k, HE.out, ⟨.slice Am s.1.length cm, ?_, ?_⟩, hX⟩
          · rw [← HSK.out]
            have e1 : (if k < s.1.length then (k : Int) else (s.1.length : Int)) = s.1.length := if_neg hlt2
            have e2 : (!decide (k < s.1.length) && decide (s.1.length ≤ 2000)) = decide (s.1.length ≤ 2000) := by simp [hlt2]
            rw [e1, e2]
            first | rfl | (simp; omega)
          · rw [← HSK.out]
            exact ho
end Go.Proofs.YtdkdmcaehinkhaaDoor
