/- Contracts of the program's test whether a machine is valid. No condition. -/
import Derived.Test.YtdkdmcaehinkhaaDoorValid2
namespace Go.Proofs.YtdkdmcaehinkhaaDoor
open Go Go.RowKit Go.Proofs
set_option maxHeartbeats 400000
theorem validRule_c (a b c sy st : Int) (rv : Value) (w : World) (h1 : 2 ≤ sy) (h2 : sy ≤ 6) (h3 : 1 ≤ st) (h4 : st ≤ 1000) : Calls Tryd.prog 57 #[.agg #[.int .i64 sy, .int .i64 st, rv], .agg #[.int .i64 a, .int .i64 b, .int .i64 c]] w fun e w' => e = .returned (.bool (ruleOk sy st ⟨a, b, c⟩)) ∧ Ext w w' := by
  have hx0 := (Ext.alloc w (.cells #[.int .i64 sy, .int .i64 st, rv] 31)).trans (Ext.alloc _ (.cells #[.int .i64 a, .int .i64 b, .int .i64 c] 79))
  by_cases hn : (⟨a, b, c⟩ : RuleD) = noR
  · have H : ruleOk sy st ⟨a, b, c⟩ = true := by simp [ruleOk, hn]
    have H2 : isR ⟨a, b, c⟩ = false := by simp [isR, rEq, hn]
    clear hn
    go_enter Tryd.func57, Tryd.ntmps57
    go_wp2_with fail
    refine (isRule_c _ _ _ _).mono ?_
    rintro e w2 ⟨rfl, hx2⟩
    go_wp2
    go_ret
    exact ⟨by simp [H], hx0.trans hx2⟩
  · have H2 : isR ⟨a, b, c⟩ = true := by simp [isR, rEq, hn]
    have hw := ruleWays sy st a b c hn
    clear hn
    go_enter Tryd.func57, Tryd.ntmps57
    go_wp2_with fail
    refine (isRule_c _ _ _ _).mono ?_
    rintro e w2 ⟨rfl, hx2⟩
    have b1 := ((Blk.new w w.heap.size _ _ rfl).alloc (.cells #[.int .i64 a, .int .i64 b, .int .i64 c] 79)).ext hx2
    have b2 := ((Blk.new _ (w.heap.size + 1) _ _ (by simp)).ext hx2)
    have c1 := b1.cell
    have c2 := b2.cell
    have hx := hx0.trans hx2
    clear hx2 b1 b2 hx0
    rcases hw with ⟨p1, p2⟩ | ⟨p1, p2, p3, p4, p5⟩ | ⟨p1, p2, p3, p4, p5⟩ | ⟨p1, p2, p3, p4, p5⟩ | ⟨p1, p2, p3, p4, p5⟩ | ⟨p1, p2, p3, p4⟩
    all_goals
      go_wp2_with (go_at_call 53; refine (within_c _ _ _ _).mono ?_; rintro e w' ⟨rfl, rfl⟩)
      go_ret
      exact ⟨by simp [*], hx⟩
theorem valid1_c (r : RuleD) (b : Nat) (m : MachD) (w : World) (h : MachAt w b m) (h1 : 2 ≤ m.sy) (h2 : m.sy ≤ 6) (h3 : 1 ≤ m.st) (h4 : m.st ≤ 1000) :
    Calls Tryd.prog 56 #[.agg #[.int .i64 r.w, .int .i64 r.m, .int .i64 r.n], .pointer (some ⟨b, 0, none⟩)] w fun e w' => e = .returned (.bool (!ruleOk m.sy m.st r)) ∧ Ext w w' := by
  obtain ⟨rv, p0, p1, p2, hr⟩ := h
  go_enter Tryd.func56, Tryd.ntmps56
  have hx := Ext.alloc w (.cells #[.int .i64 r.w, .int .i64 r.m, .int .i64 r.n] 79)
  have q0 := hx.cell p0
  have q1 := hx.cell p1
  have q2 := hx.cell p2
  clear p0 p1 p2 hr
  go_wp2_with fail
  refine (validRule_c _ _ _ _ _ _ _ h1 h2 h3 h4).mono ?_
  rintro e w2 ⟨rfl, hx2⟩
  go_wp2
  go_ret
  exact ⟨rfl, hx.trans hx2⟩
/-- The first k rules are valid: none of them is found. -/
theorem indexRule_c (b : Nat) (m : MachD) (v : Value) (w : World) (hv : Rules w v m.rules) (h : MachAt w b m) (h1 : 2 ≤ m.sy) (h2 : m.sy ≤ 6) (h3 : 1 ≤ m.st) (h4 : m.st ≤ 1000) :
    Calls Tryd.prog 73 #[v, .func (.func 56) #[] #[.pointer (some ⟨b, 0, none⟩)]] w fun e w' => (∃ k : Int, e = .returned (.int .i64 k) ∧ (decide (0 ≤ k) = !(m.rules.all (ruleOk m.sy m.st)))) ∧ Ext w w' := by
  obtain ⟨A, c, rfl, h5, h5'⟩ := hv.form
  go_enter Tryd.func73, Tryd.ntmps73
  go_wp2
  go_loopw [8] (fun i wr => ∃ k : Nat, k ≤ m.rules.length ∧ i = .int .i64 k ∧ Ext w wr ∧ okTo m k) (fun i _ => m.rules.length - (intOf i).toNat)
  case atStart => exact ⟨0, Nat.zero_le _, rfl, Ext.refl _, rfl⟩
  case round =>
    obtain ⟨k, hk, rfl, hx, ht⟩ := hrel
    by_cases hlt : k < m.rules.length
    · obtain ⟨b', off, rfl, hc⟩ := hv.at hlt
      obtain ⟨c0, c1, c2⟩ := hc k hlt
      have c0 := hx.cell c0
      have c1 := hx.cell c1
      have c2 := hx.cell c2
      clear hc
      go_wp2_with fail
      refine (valid1_c m.rules[k] b m _ (h.ext hx) h1 h2 h3 h4).mono ?_
      rintro e w2 ⟨rfl, hx2⟩
      cases he : ruleOk m.sy m.st m.rules[k]
      · go_wp2
        go_ret
        exact ⟨⟨k, rfl, by simp [all_false hlt he]⟩, hx.trans hx2⟩
      · go_wp2
        go_roundw
        case rel => exact ⟨k + 1, by omega, by go_num, hx.trans hx2, okTo_step ht hlt he⟩
        case measure => simp [intOf]; omega
    · go_wp2
      go_ret
      exact ⟨⟨-1, rfl, by simp [okTo_end ht (by omega)]⟩, hx⟩
end Go.Proofs.YtdkdmcaehinkhaaDoor
