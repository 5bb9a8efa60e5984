/- Contract of the reference's test of an automaton, and of the program's product of two automata. -/
import Derived.Test.YtkdigfgodjjiaaaGreatAbA
set_option linter.unusedSimpArgs false
set_option linter.unusedVariables false
set_option linter.unusedSectionVars false
set_option maxHeartbeats 4000000
namespace Go.Proofs.YtkdigfgodjjiaaaGreat
open Go Go.RowKit Go.Proofs
theorem dfa_no_st {d : DfaD} {sy : Int} (h : inB d.st 1 20 = false) : dfaOk d sy = false := by simp [dfaOk, h]
theorem dfa_no_len {d : DfaD} {sy : Int} (h : ¬ (d.nx.length : Int) = d.st * sy) : dfaOk d sy = false := by simp [dfaOk, h]
theorem dfa_no_zero {d : DfaD} {sy : Int} {z : Int} {l : List Int} (e : d.nx = z :: l) (h : ¬ z = 0) : dfaOk d sy = false := by simp [dfaOk, e, h]
theorem dfa_no_all {d : DfaD} {sy : Int} {k : Nat} (hk : k < d.nx.length) (h : inB d.nx[k] 0 (d.st - 1) = false) : dfaOk d sy = false := by
  have : (d.nx.all fun z => inB z 0 (d.st - 1)) = false := all_no hk h
  simp [dfaOk, this]
theorem dfa_yes {d : DfaD} {sy z : Int} {l : List Int} (s1 : 2 ≤ sy) (s2 : sy ≤ 6) (h1 : inB d.st 1 20 = true) (h2 : (d.nx.length : Int) = d.st * sy) (e : d.nx = z :: l) (h3 : z = 0) (h4 : allTo (fun z => inB z 0 (d.st - 1)) d.nx d.nx.length) : dfaOk d sy = true := by
  have := allTo_end h4 (Nat.le_refl _)
  have hb : inB sy 2 6 = true := inB_iff.2 ⟨s1, s2⟩
  unfold dfaOk
  rw [hb, h1, this, h2, e, h3]
  simp
set_option maxRecDepth 20000 in
theorem l28Is_c (b : Nat) (d : DfaD) (rv : Value) (sy : Int) (w : World) (hb : Blk w b 30 #[.int .i64 d.st, rv]) (hr : Ints w rv d.nx) (s1 : 2 ≤ sy) (s2 : sy ≤ 6) :
    Calls Tryz.prog 22 #[.pointer (some ⟨b, 0, none⟩), .int .i64 sy] w fun e w' => e = .returned (.bool (dfaOk d sy)) ∧ Ext w w' := by
  obtain ⟨A, c, rfl, g1, g2⟩ := hr.form
  cases hsy : inB sy 2 6
  · exact absurd (inB_iff.2 ⟨s1, s2⟩) (by rw [hsy]; decide)
  have p0 := hb.cell 0
  have p1 := hb.cell 1
  simp only [List.getElem?_toArray, List.getElem?_cons_zero, List.getElem?_cons_succ] at p0 p1
  have d0 := cellR p0
  have d1 := cellR p1
  cases hst : inB d.st 1 20
  · have H := Lib.hid (dfa_no_st (sy := sy) hst)
    go_enter Tryz.func22, Tryz.ntmps22
    go_wp2
    refine wp_region_ext (by kernel_rfl) (by kernel_rfl) ?_
    repeat (go_big_quiet_step ((go_at_call 41; exact Calls.sameR (l00In_c _ _ _ _))))
    refine wpQuiet_nil ?_
    intro w2 hx2
    go_wp2
    go_ret
    exact ⟨by rw [H.out]; rfl, hx2⟩
  obtain ⟨s3, s4⟩ := inB_iff.1 hst
  have hmul : 0 ≤ d.st * sy ∧ d.st * sy ≤ 120 := by
    have e1 : 0 ≤ d.st * sy := Int.mul_nonneg (by omega) (by omega)
    have e2 : d.st * sy ≤ 20 * 6 := Int.mul_le_mul s4 s2 (by omega) (by omega)
    omega
  by_cases hl : (d.nx.length : Int) = d.st * sy
  · have hl1 : ((d.nx.length : Int) != d.st * sy) = false := by simp [hl]
    have HL := Lib.hid hl
    have hn : d.nx.length ≤ 120 := by omega
    have h2 : 2 ≤ d.st * sy := by
      have : 1 * 2 ≤ d.st * sy := Int.mul_le_mul s3 s1 (by omega) (by omega)
      omega
    have h0 : 0 < d.nx.length := by omega
    clear hl h2
    obtain ⟨z, l, hz⟩ : ∃ z l, d.nx = z :: l := by
      cases hh : d.nx with
      | nil => rw [hh] at h0; simp at h0
      | cons z l => exact ⟨z, l, rfl⟩
    obtain ⟨b', off, rfl, hc⟩ := hr.at h0
    have c0 := hc 0 h0
    have hz0 : d.nx[0] = z := by simp [hz]
    rw [hz0] at c0
    simp only [Nat.add_zero] at c0
    have e0 := cellR c0
    have HZ := Lib.hid hz
    clear hc hz hz0
    by_cases hzz : z = 0
    · subst hzz
      go_enter Tryz.func22, Tryz.ntmps22
      go_wp2
      refine wp_region_ext (by kernel_rfl) (by kernel_rfl) ?_
      repeat (go_big_quiet_step ((go_at_call 41; exact Calls.sameR (l00In_c _ _ _ _))))
      refine wpQuiet_nil ?_
      intro w2 hx2
      clear d0 d1 e0
      simp only [hsy, hst]
      go_wp2
      go_loopw [5] (fun i wr => ∃ k : Nat, k ≤ d.nx.length ∧ i = .int .i64 k ∧ Ext w wr ∧ Hid (allTo (fun z => inB z 0 (d.st - 1)) d.nx k)) (fun i _ => d.nx.length - (intOf i).toNat)
      case atStart => exact ⟨0, Nat.zero_le _, rfl, hx2, Lib.hid (by unfold allTo; simp)⟩
      case round =>
        obtain ⟨k, hk, rfl, hx, ht⟩ := hrel
        have q0 := hx.cell p0
        have q1 := hx.cell p1
        by_cases hlt : k < d.nx.length
        · obtain ⟨b2, off2, hA2, hc2⟩ := hr.at hlt
          injection hA2 with hA2
          injection hA2 with e1 e2 e3
          subst e1 e2
          have c1 := hx.cell (hc2 k hlt)
          clear hc2
          have d0 := cellR q0
          have d1 := cellR q1
          have e0 := cellR c1
          cases he : inB d.nx[k] 0 (d.st - 1)
          · have H := Lib.hid (dfa_no_all (sy := sy) hlt he)
            go_wp2
            refine wp_region_ext (by kernel_rfl) (by kernel_rfl) ?_
            repeat (go_big_quiet_step ((go_at_call 41; exact Calls.sameR (l00In_c _ _ _ _))))
            refine wpQuiet_nil ?_
            intro w3 hx3
            go_wp2
            go_ret
            exact ⟨by rw [H.out]; rfl, hx.trans hx3⟩
          · have H := Lib.hid (allTo_step ht.out hlt he)
            go_wp2
            refine wp_region_ext (by kernel_rfl) (by kernel_rfl) ?_
            repeat (go_big_quiet_step ((go_at_call 41; exact Calls.sameR (l00In_c _ _ _ _))))
            refine wpQuiet_nil ?_
            intro w3 hx3
            go_wp2
            go_roundw
            case rel => exact ⟨k + 1, by omega, by go_num, hx.trans hx3, H⟩
            case measure => simp [intOf]; omega
        · have hke : k = d.nx.length := by omega
          subst hke
          have H := Lib.hid (dfa_yes s1 s2 hst HL.out HZ.out rfl ht.out)
          go_wp2
          go_ret
          exact ⟨by rw [H.out]; rfl, hx⟩
    · have H := Lib.hid (dfa_no_zero (sy := sy) HZ.out hzz)
      have hz1 : (z != 0) = true := by simp [hzz]
      go_enter Tryz.func22, Tryz.ntmps22
      go_wp2
      refine wp_region_ext (by kernel_rfl) (by kernel_rfl) ?_
      repeat (go_big_quiet_step ((go_at_call 41; exact Calls.sameR (l00In_c _ _ _ _))))
      refine wpQuiet_nil ?_
      intro w2 hx2
      go_wp2
      go_ret
      exact ⟨by rw [H.out]; rfl, hx2⟩
  · have hl1 : ((d.nx.length : Int) != d.st * sy) = true := by simp [hl]
    have H := Lib.hid (dfa_no_len hl)
    clear hl
    go_enter Tryz.func22, Tryz.ntmps22
    go_wp2
    refine wp_region_ext (by kernel_rfl) (by kernel_rfl) ?_
    repeat (go_big_quiet_step ((go_at_call 41; exact Calls.sameR (l00In_c _ _ _ _))))
    refine wpQuiet_nil ?_
    intro w2 hx2
    go_wp2
    go_ret
    exact ⟨by rw [H.out]; rfl, hx2⟩
theorem specValidDfa_c (v : Value) (d : DfaD) (sy : Int) (w : World) (h : Dfas w v d) (s1 : 2 ≤ sy) (s2 : sy ≤ 6) :
    Calls Tryz.prog 7 #[v, .int .i64 sy] w fun e w' => e = .returned (.bool (dfaOk d sy)) ∧ Ext w w' := by
  obtain ⟨rv, rfl, hr⟩ := h
  obtain ⟨A, c, rfl, g1, g2⟩ := hr.form
  have hX := Ext.alloc w (.cells #[.int .i64 d.st, .slice A d.nx.length c] 30)
  have hc := l28Is_c w.heap.size d _ sy _ (Blk.new w _ 30 #[.int .i64 d.st, .slice A d.nx.length c] rfl) (hr.ext hX) s1 s2
  go_enter Tryz.func7, Tryz.ntmps7
  go_wp2_with (go_at_call 22; refine hc.mono ?_; rintro e w' ⟨rfl, hx⟩)
  go_ret
  exact ⟨rfl, hX.trans hx⟩
end Go.Proofs.YtkdigfgodjjiaaaGreat
