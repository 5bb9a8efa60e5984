/- Contracts of the reference's test whether a machine is valid. No condition. -/
import Derived.Test.YtdkdmcaehinkhaaDoorValid
namespace Go.Proofs.YtdkdmcaehinkhaaDoor
open Go Go.RowKit Go.Proofs
set_option maxHeartbeats 400000
def machOk (m : MachD) : Bool := inB m.sy 2 6 && inB m.st 1 1000 && decide ((m.rules.length : Int) = m.sy * m.st) && m.rules.all (ruleOk m.sy m.st)
/-- A machine behind a pointer to its block's head. -/
def MachAt (w : World) (b : Nat) (m : MachD) : Prop := ∃ rv, w.cell? ⟨b, 0, none⟩ = some (.int .i64 m.sy) ∧ w.cell? ⟨b, 1, none⟩ = some (.int .i64 m.st) ∧ w.cell? ⟨b, 2, none⟩ = some rv ∧ Rules w rv m.rules
theorem MachAt.ext {w w' : World} {b : Nat} {m : MachD} (h : MachAt w b m) (he : Ext w w') : MachAt w' b m := by
  obtain ⟨rv, h0, h1, h2, hr⟩ := h
  exact ⟨rv, he.cell h0, he.cell h1, he.cell h2, hr.ext he⟩
theorem mul_bounds {a b : Int} (h1 : 2 ≤ a) (h2 : a ≤ 6) (h3 : 1 ≤ b) (h4 : b ≤ 1000) : 0 ≤ a * b ∧ a * b ≤ 6000 := by
  have e1 : 0 ≤ a * b := Int.mul_nonneg (by omega) (by omega)
  have e2 : a * b ≤ 6 * 1000 := Int.mul_le_mul h2 h4 (by omega) (by omega)
  omega
/-- The first k rules are valid. -/
def okTo (m : MachD) (k : Nat) : Prop := (m.rules.take k).all (ruleOk m.sy m.st) = true
theorem okTo_step {m : MachD} {k : Nat} (h : okTo m k) (hk : k < m.rules.length) (he : ruleOk m.sy m.st m.rules[k] = true) : okTo m (k + 1) := by
  unfold okTo at *
  rw [List.take_succ_eq_append_getElem hk, List.all_append, h]; simp [he]
theorem okTo_end {m : MachD} {k : Nat} (h : okTo m k) (hk : m.rules.length ≤ k) : m.rules.all (ruleOk m.sy m.st) = true := by
  unfold okTo at h
  rwa [List.take_of_length_le hk] at h
theorem all_false {m : MachD} {k : Nat} (hk : k < m.rules.length) (he : ruleOk m.sy m.st m.rules[k] = false) : m.rules.all (ruleOk m.sy m.st) = false := by
  rw [List.all_eq_false]
  exact ⟨m.rules[k], List.getElem_mem hk, by simp [he]⟩
theorem l05Is_c (b : Nat) (m : MachD) (w : World) (h : MachAt w b m) :
    Calls Tryd.prog 25 #[.pointer (some ⟨b, 0, none⟩)] w fun e w' => e = .returned (.bool (machOk m)) ∧ Ext w w' := by
  obtain ⟨rv, p0, p1, p2, hr⟩ := h
  obtain ⟨A, c, rfl, h2, h2'⟩ := hr.form
  have d0 := cellR p0
  have d1 := cellR p1
  have d2 := cellR p2
  cases hsy : inB m.sy 2 6
  · have H : machOk m = false := by simp [machOk, hsy]
    go_enter Tryd.func25, Tryd.ntmps25
    go_wp2
    refine wp_region_ext (by kernel_rfl) (by kernel_rfl) ?_
    repeat (go_big_quiet_step ((go_at_call 26; exact Calls.sameR (l00In_c _ _ _ _))))
    refine wpQuiet_nil ?_
    intro w2 hx2
    go_wp2
    go_ret
    exact ⟨by simp [H], hx2⟩
  cases hst : inB m.st 1 1000
  · have H : machOk m = false := by simp [machOk, hst]
    go_enter Tryd.func25, Tryd.ntmps25
    go_wp2
    refine wp_region_ext (by kernel_rfl) (by kernel_rfl) ?_
    repeat (go_big_quiet_step ((go_at_call 26; exact Calls.sameR (l00In_c _ _ _ _))))
    refine wpQuiet_nil ?_
    intro w2 hx2
    go_wp2
    go_ret
    exact ⟨by simp [H], hx2⟩
  obtain ⟨s1, s2⟩ := inB_iff.1 hsy
  obtain ⟨s3, s4⟩ := inB_iff.1 hst
  obtain ⟨s5, s6⟩ := mul_bounds s1 s2 s3 s4
  by_cases hl : (m.rules.length : Int) = m.sy * m.st
  · have hl1 : ((m.rules.length : Int) != m.sy * m.st) = false := by simp [hl]
    have HL := Lib.hid hl
    have hn : m.rules.length ≤ 6000 := by omega
    clear hl
    go_enter Tryd.func25, Tryd.ntmps25
    go_wp2
    refine wp_region_ext (by kernel_rfl) (by kernel_rfl) ?_
    repeat (go_big_quiet_step ((go_at_call 26; exact Calls.sameR (l00In_c _ _ _ _))))
    refine wpQuiet_nil ?_
    intro w2 hx2
    clear d0 d1 d2
    go_wp2
    go_loopw [3] (fun i wr => ∃ k : Nat, k ≤ m.rules.length ∧ i = .int .i64 k ∧ Ext w wr ∧ okTo m k) (fun i _ => m.rules.length - (intOf i).toNat)
    case atStart => exact ⟨0, Nat.zero_le _, rfl, hx2, rfl⟩
    case round =>
      obtain ⟨k, hk, rfl, hx, ht⟩ := hrel
      have q0 := hx.cell p0
      have q1 := hx.cell p1
      have q2 := hx.cell p2
      have d0 := cellR q0
      have d1 := cellR q1
      have d2 := cellR q2
      by_cases hlt : k < m.rules.length
      · obtain ⟨b', off, rfl, hc⟩ := hr.at hlt
        obtain ⟨c0, c1, c2⟩ := hc k hlt
        have c0 := cellR (hx.cell c0)
        have c1 := cellR (hx.cell c1)
        have c2 := cellR (hx.cell c2)
        clear hc p0 p1 p2
        have heb : ∀ q, ruleOk m.sy m.st m.rules[k] = q → ruleOk m.sy m.st ⟨m.rules[k].w, m.rules[k].m, m.rules[k].n⟩ = q := fun _ h => h
        cases he : ruleOk m.sy m.st m.rules[k]
        all_goals
          have H := heb _ he
          clear heb
          go_wp2
          refine wp_region_ext (by kernel_rfl) (by kernel_rfl) ?_
          repeat (go_big_quiet_step ((go_at_call 47; exact Calls.extR (l05Rule_c _ _ _ _ _ _ s1 s2 s3 s4))))
          refine wpQuiet_nil ?_
          intro w3 hx3
          go_wp2
        · go_ret
          exact ⟨by simp [machOk, all_false hlt he], hx.trans hx3⟩
        · go_roundw
          case rel => exact ⟨k + 1, by omega, by go_num, hx.trans hx3, okTo_step ht hlt he⟩
          case measure => simp [intOf]; omega
      · go_wp2
        go_ret
        exact ⟨by simp [machOk, hsy, hst, HL.out, okTo_end ht (by omega)], hx⟩
  · have hl1 : ((m.rules.length : Int) != m.sy * m.st) = true := by simp [hl]
    have H : machOk m = false := by simp [machOk, hl]
    clear hl
    go_enter Tryd.func25, Tryd.ntmps25
    go_wp2
    refine wp_region_ext (by kernel_rfl) (by kernel_rfl) ?_
    repeat (go_big_quiet_step ((go_at_call 26; exact Calls.sameR (l00In_c _ _ _ _))))
    refine wpQuiet_nil ?_
    intro w2 hx2
    go_wp2
    go_ret
    exact ⟨by simp [H], hx2⟩
end Go.Proofs.YtdkdmcaehinkhaaDoor
