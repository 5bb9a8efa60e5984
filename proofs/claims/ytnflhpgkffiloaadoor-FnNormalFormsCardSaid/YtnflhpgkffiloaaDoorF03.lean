/- Contracts of the tests whether rules and machines are valid, the program's and the reference's. No condition but that a rule is looked at for valid numbers of symbols and states.
Contracts of the reference's test whether a machine is valid. No condition.
Contracts of the program's test whether a machine is valid. No condition.
Contracts of the program's test whether a machine is valid, continued. No condition.
Contracts of the program's list of the places without a rule. The machine has at most 6000 rules.
Contracts of the lists of the partial configurations at which a machine halts, the program's and the reference's. The machine is valid.
Contract of the reference's list of the partial configurations at which a machine halts. The machine is valid.
Contracts of the copies of lists and of the nodes of segments. Lists are not empty and short.
Contract of the library's Repeat, for a list of one number and up to eleven of it.
Contract of the program's list of the nodes at which a machine halts. The machine is valid, the size is from 1 to 9. -/
import Derived.Test.YtnflhpgkffiloaaDoorF02
import Derived.Deep.RegionHeld3
import Derived.Deep.AppendLies
import Derived.Test.YtnflhpgkffiloaaDoorShelf
import Derived.Laws.CopyOwn
section
namespace Go.Proofs.YtnflhpgkffiloaaDoor
open Go Go.RowKit Go.Proofs
set_option maxHeartbeats 400000
def ruleOk (sy st : Int) (r : RuleD) : Bool := decide (r = noR) || (inB r.w 0 (sy - 1) && ((r.m == 1) || (r.m == -1)) && inB r.n 0 (st - 1))
theorem ruleWays (sy st a b c : Int) (h : ¬ (⟨a, b, c⟩ : RuleD) = noR) : (inB a 0 (sy - 1) = false ∧ ruleOk sy st ⟨a, b, c⟩ = false) ∨
    (inB a 0 (sy - 1) = true ∧ (b == 1) = true ∧ (b == -1) = false ∧ inB c 0 (st - 1) = false ∧ ruleOk sy st ⟨a, b, c⟩ = false) ∨ (inB a 0 (sy - 1) = true ∧ (b == 1) = true ∧ (b == -1) = false ∧ inB c 0 (st - 1) = true ∧ ruleOk sy st ⟨a, b, c⟩ = true) ∨
    (inB a 0 (sy - 1) = true ∧ (b == 1) = false ∧ (b == -1) = true ∧ inB c 0 (st - 1) = false ∧ ruleOk sy st ⟨a, b, c⟩ = false) ∨ (inB a 0 (sy - 1) = true ∧ (b == 1) = false ∧ (b == -1) = true ∧ inB c 0 (st - 1) = true ∧ ruleOk sy st ⟨a, b, c⟩ = true) ∨
    (inB a 0 (sy - 1) = true ∧ (b == 1) = false ∧ (b == -1) = false ∧ ruleOk sy st ⟨a, b, c⟩ = false) := by
  unfold ruleOk
  have h' : decide ((⟨a, b, c⟩ : RuleD) = noR) = false := by simpa using h
  rw [h']
  by_cases e1 : b = 1
  · subst e1
    cases inB a 0 (sy - 1) <;> cases inB c 0 (st - 1) <;> simp
  · by_cases e2 : b = -1
    · subst e2
      cases inB a 0 (sy - 1) <;> cases inB c 0 (st - 1) <;> simp
    · have e1' : (b == 1) = false := by simp [e1]
      have e2' : (b == -1) = false := by simp [e2]
      cases inB a 0 (sy - 1) <;> cases inB c 0 (st - 1) <;> simp [e1', e2']
theorem l05Rule_c (a b c sy st : Int) (w : World) (h1 : 2 ≤ sy) (h2 : sy ≤ 6) (h3 : 1 ≤ st) (h4 : st ≤ 1000) : Calls Tryd.prog 91 #[.agg #[.int .i64 a, .int .i64 b, .int .i64 c], .int .i64 sy, .int .i64 st] w fun e w' => e = .returned (.bool (ruleOk sy st ⟨a, b, c⟩)) ∧ Ext w w' := by
  have rn := ruleEql_run
  by_cases hn : (⟨a, b, c⟩ : RuleD) = noR
  · have H : ruleOk sy st ⟨a, b, c⟩ = true := by simp [ruleOk, hn]
    simp only [noR, RuleD.mk.injEq] at hn
    obtain ⟨rfl, rfl, rfl⟩ := hn
    have hnb : rEq ⟨0, 0, -1⟩ ⟨0, 0, -1⟩ = true := by simp [rEq]
    go_enter Tryd.func91, Tryd.ntmps91
    go_wp2
    obtain ⟨w1, bk, e1, e2, hx, hB, _, c0, c1, c2⟩ := box3 w (.int .i64 0) (.int .i64 0) (.int .i64 (-1)) 94
    rw [e1, e2]
    clear e1 e2
    have d0 := cellR c0
    have d1 := cellR c1
    have d2 := cellR c2
    refine wp_region_ext (by kernel_rfl) (by kernel_rfl) ?_
    repeat (go_big_quiet_step ((go_at_call 57; exact Calls.extR (l05None_c _))))
    refine wpQuiet_nil ?_
    intro w2 hx2
    go_wp2
    go_ret
    exact ⟨by simp [H], hx.trans hx2⟩
  · have hnb : rEq ⟨a, b, c⟩ ⟨0, 0, -1⟩ = false := by simpa [rEq, noR] using hn
    have hw := ruleWays sy st a b c hn
    clear hn
    go_enter Tryd.func91, Tryd.ntmps91
    go_wp2
    obtain ⟨w1, bk, e1, e2, hx, hB, _, c0, c1, c2⟩ := box3 w (.int .i64 a) (.int .i64 b) (.int .i64 c) 94
    rw [e1, e2]
    clear e1 e2
    have d0 := cellR c0
    have d1 := cellR c1
    have d2 := cellR c2
    refine wp_region_ext (by kernel_rfl) (by kernel_rfl) ?_
    repeat (go_big_quiet_step ((go_at_call 57; exact Calls.extR (l05None_c _))))
    refine wpQuiet_nil ?_
    intro w2 hx2
    have c0 := hx2.cell c0
    have c1 := hx2.cell c1
    have c2 := hx2.cell c2
    clear d0 d1 d2 rn
    rcases hw with ⟨p1, p2⟩ | ⟨p1, p2, p3, p4, p5⟩ | ⟨p1, p2, p3, p4, p5⟩ | ⟨p1, p2, p3, p4, p5⟩ | ⟨p1, p2, p3, p4, p5⟩ | ⟨p1, p2, p3, p4⟩
    all_goals
      go_wp2_with (go_at_call 58; refine (l00In_c _ _ _ _).mono ?_; rintro e w' ⟨rfl, rfl⟩)
      go_ret
      exact ⟨by simp [*], hx.trans hx2⟩
end Go.Proofs.YtnflhpgkffiloaaDoor
namespace Go.Proofs.YtnflhpgkffiloaaDoor
open Go Go.RowKit Go.Proofs
set_option maxHeartbeats 400000
def machOk (m : MachD) : Bool := inB m.sy 2 6 && inB m.st 1 1000 && decide ((m.rules.length : Int) = m.sy * m.st) && m.rules.all (ruleOk m.sy m.st)
/-- A machine behind a pointer to its block's head. -/
def MachAt (w : World) (b : Nat) (m : MachD) : Prop := ∃ rv, w.cell? ⟨b, 0, none⟩ = some (.int .i64 m.sy) ∧ w.cell? ⟨b, 1, none⟩ = some (.int .i64 m.st) ∧ w.cell? ⟨b, 2, none⟩ = some rv ∧ Rules w rv m.rules
theorem MachAt.ext {w w' : World} {b : Nat} {m : MachD} (h : MachAt w b m) (he : Ext w w') : MachAt w' b m := by
  obtain ⟨rv, h0, h1, h2, hr⟩ := h
  exact ⟨rv, he.cell h0, he.cell h1, he.cell h2, hr.ext he⟩
theorem mul_bounds {a b : Int} (h1 : 2 ≤ a) (h2 : a ≤ 6) (h3 : 1 ≤ b) (h4 : b ≤ 1000) : 0 ≤ a * b ∧ a * b ≤ 6000 := by
  have e1 : 0 ≤ a * b := Int.mul_nonneg (by omega) (by omega)
  have e2 : a * b ≤ 6 * 1000 := Int.mul_le_mul h2 h4 (by omega) (by omega)
  omega
/-- The first k rules are valid. -/
def okTo (m : MachD) (k : Nat) : Prop := (m.rules.take k).all (ruleOk m.sy m.st) = true
theorem okTo_step {m : MachD} {k : Nat} (h : okTo m k) (hk : k < m.rules.length) (he : ruleOk m.sy m.st m.rules[k] = true) : okTo m (k + 1) := by
  unfold okTo at *
  rw [List.take_succ_eq_append_getElem hk, List.all_append, h]; simp [he]
theorem okTo_end {m : MachD} {k : Nat} (h : okTo m k) (hk : m.rules.length ≤ k) : m.rules.all (ruleOk m.sy m.st) = true := by
  unfold okTo at h
  rwa [List.take_of_length_le hk] at h
theorem all_false {m : MachD} {k : Nat} (hk : k < m.rules.length) (he : ruleOk m.sy m.st m.rules[k] = false) : m.rules.all (ruleOk m.sy m.st) = false := by
  rw [List.all_eq_false]
  exact ⟨m.rules[k], List.getElem_mem hk, by simp [he]⟩
theorem l05Is_c (b : Nat) (m : MachD) (w : World) (h : MachAt w b m) :
    Calls Tryd.prog 78 #[.pointer (some ⟨b, 0, none⟩)] w fun e w' => e = .returned (.bool (machOk m)) ∧ Ext w w' := by
  obtain ⟨rv, p0, p1, p2, hr⟩ := h
  obtain ⟨A, c, rfl, h2, h2'⟩ := hr.form
  have d0 := cellR p0
  have d1 := cellR p1
  have d2 := cellR p2
  cases hsy : inB m.sy 2 6
  · have H : machOk m = false := by simp [machOk, hsy]
    go_enter Tryd.func78, Tryd.ntmps78
    go_wp2
    refine wp_region_ext (by kernel_rfl) (by kernel_rfl) ?_
    repeat (go_big_quiet_step ((go_at_call 58; exact Calls.sameR (l00In_c _ _ _ _))))
    refine wpQuiet_nil ?_
    intro w2 hx2
    go_wp2
    go_ret
    exact ⟨by simp [H], hx2⟩
  cases hst : inB m.st 1 1000
  · have H : machOk m = false := by simp [machOk, hst]
    go_enter Tryd.func78, Tryd.ntmps78
    go_wp2
    refine wp_region_ext (by kernel_rfl) (by kernel_rfl) ?_
    repeat (go_big_quiet_step ((go_at_call 58; exact Calls.sameR (l00In_c _ _ _ _))))
    refine wpQuiet_nil ?_
    intro w2 hx2
    go_wp2
    go_ret
    exact ⟨by simp [H], hx2⟩
  obtain ⟨s1, s2⟩ := inB_iff.1 hsy
  obtain ⟨s3, s4⟩ := inB_iff.1 hst
  obtain ⟨s5, s6⟩ := mul_bounds s1 s2 s3 s4
  by_cases hl : (m.rules.length : Int) = m.sy * m.st
  · have hl1 : ((m.rules.length : Int) != m.sy * m.st) = false := by simp [hl]
    have HL := Lib.hid hl
    have hn : m.rules.length ≤ 6000 := by omega
    clear hl
    go_enter Tryd.func78, Tryd.ntmps78
    go_wp2
    refine wp_region_ext (by kernel_rfl) (by kernel_rfl) ?_
    repeat (go_big_quiet_step ((go_at_call 58; exact Calls.sameR (l00In_c _ _ _ _))))
    refine wpQuiet_nil ?_
    intro w2 hx2
    clear d0 d1 d2
    go_wp2
    go_loopw [3] (fun i wr => ∃ k : Nat, k ≤ m.rules.length ∧ i = .int .i64 k ∧ Ext w wr ∧ okTo m k) (fun i _ => m.rules.length - (intOf i).toNat)
    case atStart => exact ⟨0, Nat.zero_le _, rfl, hx2, rfl⟩
    case round =>
      obtain ⟨k, hk, rfl, hx, ht⟩ := hrel
      have q0 := hx.cell p0
      have q1 := hx.cell p1
      have q2 := hx.cell p2
      have d0 := cellR q0
      have d1 := cellR q1
      have d2 := cellR q2
      by_cases hlt : k < m.rules.length
      · obtain ⟨b', off, rfl, hc⟩ := hr.at hlt
        obtain ⟨c0, c1, c2⟩ := hc k hlt
        have c0 := cellR (hx.cell c0)
        have c1 := cellR (hx.cell c1)
        have c2 := cellR (hx.cell c2)
        clear hc p0 p1 p2
        have heb : ∀ q, ruleOk m.sy m.st m.rules[k] = q → ruleOk m.sy m.st ⟨m.rules[k].w, m.rules[k].m, m.rules[k].n⟩ = q := fun _ h => h
        cases he : ruleOk m.sy m.st m.rules[k]
        all_goals
          have H := heb _ he
          clear heb
          go_wp2
          refine wp_region_ext (by kernel_rfl) (by kernel_rfl) ?_
          repeat (go_big_quiet_step ((go_at_call 91; exact Calls.extR (l05Rule_c _ _ _ _ _ _ s1 s2 s3 s4))))
          refine wpQuiet_nil ?_
          intro w3 hx3
          go_wp2
        · go_ret
          exact ⟨by simp [machOk, all_false hlt he], hx.trans hx3⟩
        · go_roundw
          case rel => exact ⟨k + 1, by omega, by go_num, hx.trans hx3, okTo_step ht hlt he⟩
          case measure => simp [intOf]; omega
      · go_wp2
        go_ret
        exact ⟨by simp [machOk, hsy, hst, HL.out, okTo_end ht (by omega)], hx⟩
  · have hl1 : ((m.rules.length : Int) != m.sy * m.st) = true := by simp [hl]
    have H : machOk m = false := by simp [machOk, hl]
    clear hl
    go_enter Tryd.func78, Tryd.ntmps78
    go_wp2
    refine wp_region_ext (by kernel_rfl) (by kernel_rfl) ?_
    repeat (go_big_quiet_step ((go_at_call 58; exact Calls.sameR (l00In_c _ _ _ _))))
    refine wpQuiet_nil ?_
    intro w2 hx2
    go_wp2
    go_ret
    exact ⟨by simp [H], hx2⟩
end Go.Proofs.YtnflhpgkffiloaaDoor
namespace Go.Proofs.YtnflhpgkffiloaaDoor
open Go Go.RowKit Go.Proofs
set_option maxHeartbeats 400000
theorem validRule_c (a b c sy st : Int) (rv : Value) (w : World) (h1 : 2 ≤ sy) (h2 : sy ≤ 6) (h3 : 1 ≤ st) (h4 : st ≤ 1000) : Calls Tryd.prog 63 #[.agg #[.int .i64 sy, .int .i64 st, rv], .agg #[.int .i64 a, .int .i64 b, .int .i64 c]] w fun e w' => e = .returned (.bool (ruleOk sy st ⟨a, b, c⟩)) ∧ Ext w w' := by
  have hx0 := (Ext.alloc w (.cells #[.int .i64 sy, .int .i64 st, rv] 26)).trans (Ext.alloc _ (.cells #[.int .i64 a, .int .i64 b, .int .i64 c] 94))
  by_cases hn : (⟨a, b, c⟩ : RuleD) = noR
  · have H : ruleOk sy st ⟨a, b, c⟩ = true := by simp [ruleOk, hn]
    have H2 : isR ⟨a, b, c⟩ = false := by simp [isR, rEq, hn]
    clear hn
    go_enter Tryd.func63, Tryd.ntmps63
    go_wp2_with fail
    refine (isRule_c _ _ _ _).mono ?_
    rintro e w2 ⟨rfl, hx2⟩
    go_wp2
    go_ret
    exact ⟨by simp [H], hx0.trans hx2⟩
  · have H2 : isR ⟨a, b, c⟩ = true := by simp [isR, rEq, hn]
    have hw := ruleWays sy st a b c hn
    clear hn
    go_enter Tryd.func63, Tryd.ntmps63
    go_wp2_with fail
    refine (isRule_c _ _ _ _).mono ?_
    rintro e w2 ⟨rfl, hx2⟩
    have b1 := ((Blk.new w w.heap.size _ _ rfl).alloc (.cells #[.int .i64 a, .int .i64 b, .int .i64 c] 94)).ext hx2
    have b2 := ((Blk.new _ (w.heap.size + 1) _ _ (by simp)).ext hx2)
    have c1 := b1.cell
    have c2 := b2.cell
    have hx := hx0.trans hx2
    clear hx2 b1 b2 hx0
    rcases hw with ⟨p1, p2⟩ | ⟨p1, p2, p3, p4, p5⟩ | ⟨p1, p2, p3, p4, p5⟩ | ⟨p1, p2, p3, p4, p5⟩ | ⟨p1, p2, p3, p4, p5⟩ | ⟨p1, p2, p3, p4⟩
    all_goals
      go_wp2_with (go_at_call 42; refine (within_c _ _ _ _).mono ?_; rintro e w' ⟨rfl, rfl⟩)
      go_ret
      exact ⟨by simp [*], hx⟩
theorem valid1_c (r : RuleD) (b : Nat) (m : MachD) (w : World) (h : MachAt w b m) (h1 : 2 ≤ m.sy) (h2 : m.sy ≤ 6) (h3 : 1 ≤ m.st) (h4 : m.st ≤ 1000) :
    Calls Tryd.prog 62 #[.agg #[.int .i64 r.w, .int .i64 r.m, .int .i64 r.n], .pointer (some ⟨b, 0, none⟩)] w fun e w' => e = .returned (.bool (!ruleOk m.sy m.st r)) ∧ Ext w w' := by
  obtain ⟨rv, p0, p1, p2, hr⟩ := h
  go_enter Tryd.func62, Tryd.ntmps62
  have hx := Ext.alloc w (.cells #[.int .i64 r.w, .int .i64 r.m, .int .i64 r.n] 94)
  have q0 := hx.cell p0
  have q1 := hx.cell p1
  have q2 := hx.cell p2
  clear p0 p1 p2 hr
  go_wp2_with fail
  refine (validRule_c _ _ _ _ _ _ _ h1 h2 h3 h4).mono ?_
  rintro e w2 ⟨rfl, hx2⟩
  go_wp2
  go_ret
  exact ⟨rfl, hx.trans hx2⟩
/-- The first k rules are valid: none of them is found. -/
theorem indexRule_c (b : Nat) (m : MachD) (v : Value) (w : World) (hv : Rules w v m.rules) (h : MachAt w b m) (h1 : 2 ≤ m.sy) (h2 : m.sy ≤ 6) (h3 : 1 ≤ m.st) (h4 : m.st ≤ 1000) :
    Calls Tryd.prog 79 #[v, .func (.func 62) #[] #[.pointer (some ⟨b, 0, none⟩)]] w fun e w' => (∃ k : Int, e = .returned (.int .i64 k) ∧ (decide (0 ≤ k) = !(m.rules.all (ruleOk m.sy m.st)))) ∧ Ext w w' := by
  obtain ⟨A, c, rfl, h5, h5'⟩ := hv.form
  go_enter Tryd.func79, Tryd.ntmps79
  go_wp2
  go_loopw [8] (fun i wr => ∃ k : Nat, k ≤ m.rules.length ∧ i = .int .i64 k ∧ Ext w wr ∧ okTo m k) (fun i _ => m.rules.length - (intOf i).toNat)
  case atStart => exact ⟨0, Nat.zero_le _, rfl, Ext.refl _, rfl⟩
  case round =>
    obtain ⟨k, hk, rfl, hx, ht⟩ := hrel
    by_cases hlt : k < m.rules.length
    · obtain ⟨b', off, rfl, hc⟩ := hv.at hlt
      obtain ⟨c0, c1, c2⟩ := hc k hlt
      have c0 := hx.cell c0
      have c1 := hx.cell c1
      have c2 := hx.cell c2
      clear hc
      go_wp2_with fail
      refine (valid1_c m.rules[k] b m _ (h.ext hx) h1 h2 h3 h4).mono ?_
      rintro e w2 ⟨rfl, hx2⟩
      cases he : ruleOk m.sy m.st m.rules[k]
      · go_wp2
        go_ret
        exact ⟨⟨k, rfl, by simp [all_false hlt he]⟩, hx.trans hx2⟩
      · go_wp2
        go_roundw
        case rel => exact ⟨k + 1, by omega, by go_num, hx.trans hx2, okTo_step ht hlt he⟩
        case measure => simp [intOf]; omega
    · go_wp2
      go_ret
      exact ⟨⟨-1, rfl, by simp [okTo_end ht (by omega)]⟩, hx⟩
end Go.Proofs.YtnflhpgkffiloaaDoor
namespace Go.Proofs.YtnflhpgkffiloaaDoor
open Go Go.RowKit Go.Proofs
set_option maxHeartbeats 400000
theorem sizeRule_c (v : Value) (rs : List RuleD) (w : World) (h : Rules w v rs) : Calls Tryd.prog 60 #[v] w fun e w' => e = .returned (.int .i64 rs.length) ∧ w = w' := by
  obtain ⟨A, c, rfl, h1, h2⟩ := h.form
  go_enter Tryd.func60, Tryd.ntmps60
  go_wp2
  go_ret
  exact ⟨rfl, rfl⟩
theorem sizeInt_c (v : Value) (zs : List Int) (w : World) (h : Ints w v zs) : Calls Tryd.prog 43 #[v] w fun e w' => e = .returned (.int .i64 zs.length) ∧ w = w' := by
  obtain ⟨A, c, rfl, h1, h2⟩ := h.form
  go_enter Tryd.func43, Tryd.ntmps43
  go_wp2
  go_ret
  exact ⟨rfl, rfl⟩
theorem containsRule_c (b : Nat) (m : MachD) (v : Value) (w : World) (hv : Rules w v m.rules) (h : MachAt w b m) (h1 : 2 ≤ m.sy) (h2 : m.sy ≤ 6) (h3 : 1 ≤ m.st) (h4 : m.st ≤ 1000) :
    Calls Tryd.prog 61 #[v, .func (.func 62) #[] #[.pointer (some ⟨b, 0, none⟩)]] w fun e w' => e = .returned (.bool (!(m.rules.all (ruleOk m.sy m.st)))) ∧ Ext w w' := by
  go_enter Tryd.func61, Tryd.ntmps61
  go_wp2_with fail
  refine (indexRule_c b m v _ hv h h1 h2 h3 h4).mono ?_
  rintro e w2 ⟨⟨k, rfl, hk⟩, hx2⟩
  have HK := Lib.hid hk
  clear hk
  go_wp2
  go_ret
  exact ⟨by simp [← HK.out], hx2⟩
theorem ValidMachine_c (v : Value) (m : MachD) (w : World) (h : Mach w v m) :
    Calls Tryd.prog 36 #[v] w fun e w' => e = .returned (.bool (machOk m)) ∧ Ext w w' := by
  obtain ⟨rv, rfl, hr⟩ := h
  obtain ⟨A, c, rfl, h2, h2'⟩ := hr.form
  obtain ⟨w1, bk, e1, e2, hx, hB, _, p0, p1, p2⟩ := box3 w (.int .i64 m.sy) (.int .i64 m.st) (.slice A m.rules.length c) 26
  have hr := hr.ext hx
  have d0 := cellR p0
  have d1 := cellR p1
  have d2 := cellR p2
  have hM : MachAt w1 bk m := ⟨_, p0, p1, p2, hr⟩
  have E1 := Lib.hid e1
  have E2 := Lib.hid e2
  clear e1 e2 hB
  cases hsy : inB m.sy 2 6
  · have H : machOk m = false := by simp [machOk, hsy]
    go_enter Tryd.func36, Tryd.ntmps36
    go_wp2
    rw [E1.out, E2.out]
    refine wp_region_ext (by kernel_rfl) (by kernel_rfl) ?_
    repeat (go_big_quiet_step ((first | (go_at_call 42; exact Calls.sameR (within_c _ _ _ _)) | (go_at_call 60; exact Calls.sameR (sizeRule_c _ _ _ (hr.ext (below_regrown _ _ _)))))))
    refine wpQuiet_nil ?_
    intro w2 hx2
    go_wp2
    go_ret
    exact ⟨by simp [H], hx.trans hx2⟩
  cases hst : inB m.st 1 1000
  · have H : machOk m = false := by simp [machOk, hst]
    go_enter Tryd.func36, Tryd.ntmps36
    go_wp2
    rw [E1.out, E2.out]
    refine wp_region_ext (by kernel_rfl) (by kernel_rfl) ?_
    repeat (go_big_quiet_step ((first | (go_at_call 42; exact Calls.sameR (within_c _ _ _ _)) | (go_at_call 60; exact Calls.sameR (sizeRule_c _ _ _ (hr.ext (below_regrown _ _ _)))))))
    refine wpQuiet_nil ?_
    intro w2 hx2
    go_wp2
    go_ret
    exact ⟨by simp [H], hx.trans hx2⟩
  obtain ⟨s1, s2⟩ := inB_iff.1 hsy
  obtain ⟨s3, s4⟩ := inB_iff.1 hst
  obtain ⟨s5, s6⟩ := mul_bounds s1 s2 s3 s4
  rw [Int.mul_comm] at s5 s6
  by_cases hl : (m.rules.length : Int) = m.sy * m.st
  · have hl1 : ((m.rules.length : Int) != m.st * m.sy) = false := by rw [Int.mul_comm m.st]; simp [hl]
    have HL := Lib.hid hl
    clear hl
    go_enter Tryd.func36, Tryd.ntmps36
    go_wp2
    rw [E1.out, E2.out]
    refine wp_region_ext (by kernel_rfl) (by kernel_rfl) ?_
    repeat (go_big_quiet_step ((first | (go_at_call 42; exact Calls.sameR (within_c _ _ _ _)) | (go_at_call 60; exact Calls.sameR (sizeRule_c _ _ _ (hr.ext (below_regrown _ _ _)))))))
    refine wpQuiet_nil ?_
    intro w2 hx2
    have p2' := hx2.cell p2
    clear d0 d1 d2
    go_wp2_with fail
    refine (containsRule_c bk m _ _ (hr.ext hx2) (hM.ext hx2) s1 s2 s3 s4).mono ?_
    rintro e w3 ⟨rfl, hx3⟩
    go_wp2
    go_ret
    exact ⟨by simp [machOk, hsy, hst, HL.out], (hx.trans hx2).trans hx3⟩
  · have hl1 : ((m.rules.length : Int) != m.st * m.sy) = true := by rw [Int.mul_comm m.st]; simp [hl]
    have H : machOk m = false := by simp [machOk, hl]
    clear hl
    go_enter Tryd.func36, Tryd.ntmps36
    go_wp2
    rw [E1.out, E2.out]
    refine wp_region_ext (by kernel_rfl) (by kernel_rfl) ?_
    repeat (go_big_quiet_step ((first | (go_at_call 42; exact Calls.sameR (within_c _ _ _ _)) | (go_at_call 60; exact Calls.sameR (sizeRule_c _ _ _ (hr.ext (below_regrown _ _ _)))))))
    refine wpQuiet_nil ?_
    intro w2 hx2
    go_wp2
    go_ret
    exact ⟨by simp [H], hx.trans hx2⟩
end Go.Proofs.YtnflhpgkffiloaaDoor
end
section
namespace Go.Proofs.YtnflhpgkffiloaaDoor
open Go Go.RowKit Go.Proofs
set_option maxHeartbeats 400000
theorem intInfo : (Tryd.prog.info? 2).map (fun i => (i.zero, i.size, i.bytes)) = some (some (.int .i64 0), 1, 8) := by kernel_rfl
end Go.Proofs.YtnflhpgkffiloaaDoor
namespace Go.Proofs.YtnflhpgkffiloaaDoor
open Go Go.RowKit Go.Proofs
set_option maxHeartbeats 400000
end Go.Proofs.YtnflhpgkffiloaaDoor
namespace Go.Proofs.YtnflhpgkffiloaaDoor
open Go Go.RowKit Go.Proofs
set_option maxHeartbeats 400000
end Go.Proofs.YtnflhpgkffiloaaDoor
end
section
namespace Go.Proofs.YtnflhpgkffiloaaDoor
open Go Go.RowKit Go.Proofs
set_option maxHeartbeats 400000
theorem intSize (w : World) : (Go.sizeOf 2).run Tryd.prog w = .ok 1 w := by kernel_rfl
theorem ivs_one (zs : List Int) : ∀ u ∈ ivs zs, u.oneCell' = true := by
  intro u hu
  simp only [ivs, List.mem_map] at hu
  obtain ⟨z, _, rfl⟩ := hu
  rfl
theorem ints_cells {w : World} {b off : Nat} {zs : List Int} (hc : ∀ j, (hj : j < zs.length) → w.cell? ⟨b, off + j, none⟩ = some (.int .i64 zs[j])) : ∀ j u, (ivs zs)[j]? = some u → w.cell? ⟨b, off + j, none⟩ = some u := by
  intro j u hj
  obtain ⟨hl, _⟩ := List.getElem?_eq_some_iff.1 hj
  rw [ivs_length] at hl
  rw [ivs_get zs j hl] at hj
  injection hj with hj
  subst hj
  exact hc j hl
/-- A node with a place, a state, and a symbol at a cell. -/
def segNode (x : List Int) (place state symbol : Int) : List Int :=
  if 0 ≤ place ∧ place ≤ (x.length : Int) - 3 then ((x.set 0 place).set 1 state).set (2 + place).toNat symbol else (x.set 0 place).set 1 state
@[simp] theorem segNode_length (x : List Int) (a b c : Int) : (segNode x a b c).length = x.length := by unfold segNode; split <;> simp
end Go.Proofs.YtnflhpgkffiloaaDoor
namespace Go.Proofs.YtnflhpgkffiloaaDoor
open Go Go.RowKit Go.Proofs
set_option maxHeartbeats 400000
theorem intSize' : (Tryd.prog.info? 2).map (·.size) = some 1 := by kernel_rfl
end Go.Proofs.YtnflhpgkffiloaaDoor
namespace Go.Proofs.YtnflhpgkffiloaaDoor
open Go Go.RowKit Go.Proofs
set_option maxHeartbeats 400000
theorem rowInfo : (Tryd.prog.info? 29).map (fun i => (i.zero, i.size, i.bytes)) = some (some (.slice none 0 0), 1, 24) := by kernel_rfl
/-- A row is appended. -/
theorem OwnIntRows.snoc {base : Nat} {w w' : World} {v v' u : Value} {xss : List (List Int)} {ys : List Int} {vs : List Value} (h1 : w.ownsRow base 29 1 v xss.length vs)
    (h2 : ∀ i, (h : i < xss.length) → ∃ u, vs[i]? = some u ∧ OwnInts base w u xss[i])
    (h3 : ∀ (i j : Nat) (u u' : Value) (g : Nat), vs[i]? = some u → vs[j]? = some u' → u.ownBlock = some g → u'.ownBlock = some g → i = j)
    (hu : OwnInts base w u ys) (hne : ∀ (i : Nat) (u' : Value) (g : Nat), vs[i]? = some u' → u'.ownBlock = some g → u.ownBlock ≠ some g)
    (ho : w'.ownsRow base 29 1 v' (xss.length + 1) (vs ++ [u])) (hg : w.grownBy w' v.ownBlock) : OwnIntRows base w' v' (xss ++ [ys]) := by
  have hl := h1.1
  have keep : ∀ {x : Value} {zs : List Int}, OwnInts base w x zs → OwnInts base w' x zs := fun hx => World.ownsRow.kept hx hg (own_ne hx h1 (by decide))
  refine ⟨vs ++ [u], by simpa using ho, fun i hi => ?_, ?_⟩
  · by_cases h : i < xss.length
    · obtain ⟨x, e, hx⟩ := h2 i h
      exact ⟨x, by rw [List.getElem?_append_left (by omega), e], by rw [List.getElem_append_left h]; exact keep hx⟩
    · have hie : i = xss.length := by simp at hi; omega
      subst hie
      exact ⟨u, by rw [List.getElem?_append_right (by omega)]; simp [hl], by simpa using keep hu⟩
  · intro i j x y g hx hy hgx hgy
    have hlv : vs.length = xss.length := by omega
    by_cases hi : i < vs.length <;> by_cases hj : j < vs.length
    · rw [List.getElem?_append_left hi] at hx
      rw [List.getElem?_append_left hj] at hy
      exact h3 i j x y g hx hy hgx hgy
    · rw [List.getElem?_append_left hi] at hx
      rw [List.getElem?_append_right (by omega)] at hy
      have : u = y := by
        have := (List.getElem?_eq_some_iff.1 hy).1
        have e : j - vs.length = 0 := by simp at this; omega
        rw [e] at hy; simpa using hy
      subst this
      exact absurd hgy (hne i x g hx hgx)
    · rw [List.getElem?_append_right (by omega)] at hx
      rw [List.getElem?_append_left hj] at hy
      have : u = x := by
        have := (List.getElem?_eq_some_iff.1 hx).1
        have e : i - vs.length = 0 := by simp at this; omega
        rw [e] at hx; simpa using hx
      subst this
      exact absurd hgx (hne j y g hy hgy)
    · rw [List.getElem?_append_right (by omega)] at hx hy
      have a1 := (List.getElem?_eq_some_iff.1 hx).1
      have a2 := (List.getElem?_eq_some_iff.1 hy).1
      simp at a1 a2
      omega
theorem OwnInts.base {b b' : Nat} {w : World} {v : Value} {zs : List Int} (h : OwnInts b w v zs) (hb : b' ≤ b) : OwnInts b' w v zs := ownsRow_base h hb
end Go.Proofs.YtnflhpgkffiloaaDoor
end
