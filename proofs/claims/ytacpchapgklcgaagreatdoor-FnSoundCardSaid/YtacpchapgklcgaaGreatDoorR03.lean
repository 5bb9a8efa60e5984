/- Contracts of the tests whether rules and machines are valid, the program's and the reference's. No condition but that a rule is looked at for valid numbers of symbols and states.
Contracts of the reference's test whether a machine is valid. No condition.
Contracts of the program's test whether a machine is valid. No condition.
Contracts of the program's test whether a machine is valid, continued. No condition.
Contracts of the program's list of the places without a rule. The machine has at most 6000 rules.
Contracts of the lists of the partial configurations at which a machine halts, the program's and the reference's. The machine is valid.
Contract of the reference's list of the partial configurations at which a machine halts. The machine is valid.
Contracts of the copies of lists and of the nodes of segments. Lists are not empty and short.
Contract of the library's Repeat, for a list of one number and up to eleven of it.
Contract of the program's list of the nodes at which a machine halts. The machine is valid, the size is from 1 to 9. -/
import Derived.Test.YtacpchapgklcgaaGreatDoorR02
import Derived.Deep.RegionHeld3
import Derived.Deep.AppendLies
import Derived.Test.YtacpchapgklcgaaGreatDoorShelf
import Derived.Laws.CopyOwn
section
namespace Go.Proofs.YtacpchapgklcgaaGreatDoor
open Go Go.RowKit Go.Proofs
set_option maxHeartbeats 400000
def ruleOk (sy st : Int) (r : RuleD) : Bool := decide (r = noR) || (inB r.w 0 (sy - 1) && ((r.m == 1) || (r.m == -1)) && inB r.n 0 (st - 1))
theorem ruleWays (sy st a b c : Int) (h : ¬ (⟨a, b, c⟩ : RuleD) = noR) : (inB a 0 (sy - 1) = false ∧ ruleOk sy st ⟨a, b, c⟩ = false) ∨
    (inB a 0 (sy - 1) = true ∧ (b == 1) = true ∧ (b == -1) = false ∧ inB c 0 (st - 1) = false ∧ ruleOk sy st ⟨a, b, c⟩ = false) ∨ (inB a 0 (sy - 1) = true ∧ (b == 1) = true ∧ (b == -1) = false ∧ inB c 0 (st - 1) = true ∧ ruleOk sy st ⟨a, b, c⟩ = true) ∨
    (inB a 0 (sy - 1) = true ∧ (b == 1) = false ∧ (b == -1) = true ∧ inB c 0 (st - 1) = false ∧ ruleOk sy st ⟨a, b, c⟩ = false) ∨ (inB a 0 (sy - 1) = true ∧ (b == 1) = false ∧ (b == -1) = true ∧ inB c 0 (st - 1) = true ∧ ruleOk sy st ⟨a, b, c⟩ = true) ∨
    (inB a 0 (sy - 1) = true ∧ (b == 1) = false ∧ (b == -1) = false ∧ ruleOk sy st ⟨a, b, c⟩ = false) := by
  unfold ruleOk
  have h' : decide ((⟨a, b, c⟩ : RuleD) = noR) = false := by simpa using h
  rw [h']
  by_cases e1 : b = 1
  · subst e1
    cases inB a 0 (sy - 1) <;> cases inB c 0 (st - 1) <;> simp
  · by_cases e2 : b = -1
    · subst e2
      cases inB a 0 (sy - 1) <;> cases inB c 0 (st - 1) <;> simp
    · have e1' : (b == 1) = false := by simp [e1]
      have e2' : (b == -1) = false := by simp [e2]
      cases inB a 0 (sy - 1) <;> cases inB c 0 (st - 1) <;> simp [e1', e2']
theorem l05Rule_c (a b c sy st : Int) (w : World) (h1 : 2 ≤ sy) (h2 : sy ≤ 6) (h3 : 1 ≤ st) (h4 : st ≤ 1000) : Calls Tryz.prog 45 #[.agg #[.int .i64 a, .int .i64 b, .int .i64 c], .int .i64 sy, .int .i64 st] w fun e w' => e = .returned (.bool (ruleOk sy st ⟨a, b, c⟩)) ∧ Ext w w' := by
  have rn := ruleEql_run
  by_cases hn : (⟨a, b, c⟩ : RuleD) = noR
  · have H : ruleOk sy st ⟨a, b, c⟩ = true := by simp [ruleOk, hn]
    simp only [noR, RuleD.mk.injEq] at hn
    obtain ⟨rfl, rfl, rfl⟩ := hn
    have hnb : rEq ⟨0, 0, -1⟩ ⟨0, 0, -1⟩ = true := by simp [rEq]
    go_enter Tryz.func45, Tryz.ntmps45
    go_wp2
    obtain ⟨w1, bk, e1, e2, hx, hB, _, c0, c1, c2⟩ := box3 w (.int .i64 0) (.int .i64 0) (.int .i64 (-1)) 38
    rw [e1, e2]
    clear e1 e2
    have d0 := cellR c0
    have d1 := cellR c1
    have d2 := cellR c2
    refine wp_region_ext (by kernel_rfl) (by kernel_rfl) ?_
    repeat (go_big_quiet_step ((go_at_call 43; exact Calls.extR (l05None_c _))))
    refine wpQuiet_nil ?_
    intro w2 hx2
    go_wp2
    go_ret
    exact ⟨by simp [H], hx.trans hx2⟩
  · have hnb : rEq ⟨a, b, c⟩ ⟨0, 0, -1⟩ = false := by simpa [rEq, noR] using hn
    have hw := ruleWays sy st a b c hn
    clear hn
    go_enter Tryz.func45, Tryz.ntmps45
    go_wp2
    obtain ⟨w1, bk, e1, e2, hx, hB, _, c0, c1, c2⟩ := box3 w (.int .i64 a) (.int .i64 b) (.int .i64 c) 38
    rw [e1, e2]
    clear e1 e2
    have d0 := cellR c0
    have d1 := cellR c1
    have d2 := cellR c2
    refine wp_region_ext (by kernel_rfl) (by kernel_rfl) ?_
    repeat (go_big_quiet_step ((go_at_call 43; exact Calls.extR (l05None_c _))))
    refine wpQuiet_nil ?_
    intro w2 hx2
    have c0 := hx2.cell c0
    have c1 := hx2.cell c1
    have c2 := hx2.cell c2
    clear d0 d1 d2 rn
    rcases hw with ⟨p1, p2⟩ | ⟨p1, p2, p3, p4, p5⟩ | ⟨p1, p2, p3, p4, p5⟩ | ⟨p1, p2, p3, p4, p5⟩ | ⟨p1, p2, p3, p4, p5⟩ | ⟨p1, p2, p3, p4⟩
    all_goals
      go_wp2_with (go_at_call 44; refine (l00In_c _ _ _ _).mono ?_; rintro e w' ⟨rfl, rfl⟩)
      go_ret
      exact ⟨by simp [*], hx.trans hx2⟩
end Go.Proofs.YtacpchapgklcgaaGreatDoor
namespace Go.Proofs.YtacpchapgklcgaaGreatDoor
open Go Go.RowKit Go.Proofs
set_option maxHeartbeats 400000
def machOk (m : MachD) : Bool := inB m.sy 2 6 && inB m.st 1 1000 && decide ((m.rules.length : Int) = m.sy * m.st) && m.rules.all (ruleOk m.sy m.st)
/-- A machine behind a pointer to its block's head. -/
def MachAt (w : World) (b : Nat) (m : MachD) : Prop := ∃ rv, w.cell? ⟨b, 0, none⟩ = some (.int .i64 m.sy) ∧ w.cell? ⟨b, 1, none⟩ = some (.int .i64 m.st) ∧ w.cell? ⟨b, 2, none⟩ = some rv ∧ Rules w rv m.rules
theorem MachAt.ext {w w' : World} {b : Nat} {m : MachD} (h : MachAt w b m) (he : Ext w w') : MachAt w' b m := by
  obtain ⟨rv, h0, h1, h2, hr⟩ := h
  exact ⟨rv, he.cell h0, he.cell h1, he.cell h2, hr.ext he⟩
theorem mul_bounds {a b : Int} (h1 : 2 ≤ a) (h2 : a ≤ 6) (h3 : 1 ≤ b) (h4 : b ≤ 1000) : 0 ≤ a * b ∧ a * b ≤ 6000 := by
  have e1 : 0 ≤ a * b := Int.mul_nonneg (by omega) (by omega)
  have e2 : a * b ≤ 6 * 1000 := Int.mul_le_mul h2 h4 (by omega) (by omega)
  omega
/-- The first k rules are valid. -/
def okTo (m : MachD) (k : Nat) : Prop := (m.rules.take k).all (ruleOk m.sy m.st) = true
theorem okTo_step {m : MachD} {k : Nat} (h : okTo m k) (hk : k < m.rules.length) (he : ruleOk m.sy m.st m.rules[k] = true) : okTo m (k + 1) := by
  unfold okTo at *
  rw [List.take_succ_eq_append_getElem hk, List.all_append, h]; simp [he]
theorem okTo_end {m : MachD} {k : Nat} (h : okTo m k) (hk : m.rules.length ≤ k) : m.rules.all (ruleOk m.sy m.st) = true := by
  unfold okTo at h
  rwa [List.take_of_length_le hk] at h
theorem all_false {m : MachD} {k : Nat} (hk : k < m.rules.length) (he : ruleOk m.sy m.st m.rules[k] = false) : m.rules.all (ruleOk m.sy m.st) = false := by
  rw [List.all_eq_false]
  exact ⟨m.rules[k], List.getElem_mem hk, by simp [he]⟩
theorem l05Is_c (b : Nat) (m : MachD) (w : World) (h : MachAt w b m) :
    Calls Tryz.prog 18 #[.pointer (some ⟨b, 0, none⟩)] w fun e w' => e = .returned (.bool (machOk m)) ∧ Ext w w' := by
  obtain ⟨rv, p0, p1, p2, hr⟩ := h
  obtain ⟨A, c, rfl, h2, h2'⟩ := hr.form
  have d0 := cellR p0
  have d1 := cellR p1
  have d2 := cellR p2
  cases hsy : inB m.sy 2 6
  · have H : machOk m = false := by simp [machOk, hsy]
    go_enter Tryz.func18, Tryz.ntmps18
    go_wp2
    refine wp_region_ext (by kernel_rfl) (by kernel_rfl) ?_
    repeat (go_big_quiet_step ((go_at_call 44; exact Calls.sameR (l00In_c _ _ _ _))))
    refine wpQuiet_nil ?_
    intro w2 hx2
    go_wp2
    go_ret
    exact ⟨by simp [H], hx2⟩
  cases hst : inB m.st 1 1000
  · have H : machOk m = false := by simp [machOk, hst]
    go_enter Tryz.func18, Tryz.ntmps18
    go_wp2
    refine wp_region_ext (by kernel_rfl) (by kernel_rfl) ?_
    repeat (go_big_quiet_step ((go_at_call 44; exact Calls.sameR (l00In_c _ _ _ _))))
    refine wpQuiet_nil ?_
    intro w2 hx2
    go_wp2
    go_ret
    exact ⟨by simp [H], hx2⟩
  obtain ⟨s1, s2⟩ := inB_iff.1 hsy
  obtain ⟨s3, s4⟩ := inB_iff.1 hst
  obtain ⟨s5, s6⟩ := mul_bounds s1 s2 s3 s4
  by_cases hl : (m.rules.length : Int) = m.sy * m.st
  · have hl1 : ((m.rules.length : Int) != m.sy * m.st) = false := by simp [hl]
    have HL := Lib.hid hl
    have hn : m.rules.length ≤ 6000 := by omega
    clear hl
    go_enter Tryz.func18, Tryz.ntmps18
    go_wp2
    refine wp_region_ext (by kernel_rfl) (by kernel_rfl) ?_
    repeat (go_big_quiet_step ((go_at_call 44; exact Calls.sameR (l00In_c _ _ _ _))))
    refine wpQuiet_nil ?_
    intro w2 hx2
    clear d0 d1 d2
    go_wp2
    go_loopw [3] (fun i wr => ∃ k : Nat, k ≤ m.rules.length ∧ i = .int .i64 k ∧ Ext w wr ∧ okTo m k) (fun i _ => m.rules.length - (intOf i).toNat)
    case atStart => exact ⟨0, Nat.zero_le _, rfl, hx2, rfl⟩
    case round =>
      obtain ⟨k, hk, rfl, hx, ht⟩ := hrel
      have q0 := hx.cell p0
      have q1 := hx.cell p1
      have q2 := hx.cell p2
      have d0 := cellR q0
      have d1 := cellR q1
      have d2 := cellR q2
      by_cases hlt : k < m.rules.length
      · obtain ⟨b', off, rfl, hc⟩ := hr.at hlt
        obtain ⟨c0, c1, c2⟩ := hc k hlt
        have c0 := cellR (hx.cell c0)
        have c1 := cellR (hx.cell c1)
        have c2 := cellR (hx.cell c2)
        clear hc p0 p1 p2
        have heb : ∀ q, ruleOk m.sy m.st m.rules[k] = q → ruleOk m.sy m.st ⟨m.rules[k].w, m.rules[k].m, m.rules[k].n⟩ = q := fun _ h => h
        cases he : ruleOk m.sy m.st m.rules[k]
        all_goals
          have H := heb _ he
          clear heb
          go_wp2
          refine wp_region_ext (by kernel_rfl) (by kernel_rfl) ?_
          repeat (go_big_quiet_step ((go_at_call 45; exact Calls.extR (l05Rule_c _ _ _ _ _ _ s1 s2 s3 s4))))
          refine wpQuiet_nil ?_
          intro w3 hx3
          go_wp2
        · go_ret
          exact ⟨by simp [machOk, all_false hlt he], hx.trans hx3⟩
        · go_roundw
          case rel => exact ⟨k + 1, by omega, by go_num, hx.trans hx3, okTo_step ht hlt he⟩
          case measure => simp [intOf]; omega
      · go_wp2
        go_ret
        exact ⟨by simp [machOk, hsy, hst, HL.out, okTo_end ht (by omega)], hx⟩
  · have hl1 : ((m.rules.length : Int) != m.sy * m.st) = true := by simp [hl]
    have H : machOk m = false := by simp [machOk, hl]
    clear hl
    go_enter Tryz.func18, Tryz.ntmps18
    go_wp2
    refine wp_region_ext (by kernel_rfl) (by kernel_rfl) ?_
    repeat (go_big_quiet_step ((go_at_call 44; exact Calls.sameR (l00In_c _ _ _ _))))
    refine wpQuiet_nil ?_
    intro w2 hx2
    go_wp2
    go_ret
    exact ⟨by simp [H], hx2⟩
end Go.Proofs.YtacpchapgklcgaaGreatDoor
namespace Go.Proofs.YtacpchapgklcgaaGreatDoor
open Go Go.RowKit Go.Proofs
set_option maxHeartbeats 400000
theorem validRule_c (a b c sy st : Int) (rv : Value) (w : World) (h1 : 2 ≤ sy) (h2 : sy ≤ 6) (h3 : 1 ≤ st) (h4 : st ≤ 1000) : Calls Tryz.prog 83 #[.agg #[.int .i64 sy, .int .i64 st, rv], .agg #[.int .i64 a, .int .i64 b, .int .i64 c]] w fun e w' => e = .returned (.bool (ruleOk sy st ⟨a, b, c⟩)) ∧ Ext w w' := by
  have hx0 := (Ext.alloc w (.cells #[.int .i64 sy, .int .i64 st, rv] 26)).trans (Ext.alloc _ (.cells #[.int .i64 a, .int .i64 b, .int .i64 c] 38))
  by_cases hn : (⟨a, b, c⟩ : RuleD) = noR
  · have H : ruleOk sy st ⟨a, b, c⟩ = true := by simp [ruleOk, hn]
    have H2 : isR ⟨a, b, c⟩ = false := by simp [isR, rEq, hn]
    clear hn
    go_enter Tryz.func83, Tryz.ntmps83
    go_wp2_with fail
    refine (isRule_c _ _ _ _).mono ?_
    rintro e w2 ⟨rfl, hx2⟩
    go_wp2
    go_ret
    exact ⟨by simp [H], hx0.trans hx2⟩
  · have H2 : isR ⟨a, b, c⟩ = true := by simp [isR, rEq, hn]
    have hw := ruleWays sy st a b c hn
    clear hn
    go_enter Tryz.func83, Tryz.ntmps83
    go_wp2_with fail
    refine (isRule_c _ _ _ _).mono ?_
    rintro e w2 ⟨rfl, hx2⟩
    have b1 := ((Blk.new w w.heap.size _ _ rfl).alloc (.cells #[.int .i64 a, .int .i64 b, .int .i64 c] 38)).ext hx2
    have b2 := ((Blk.new _ (w.heap.size + 1) _ _ (by simp)).ext hx2)
    have c1 := b1.cell
    have c2 := b2.cell
    have hx := hx0.trans hx2
    clear hx2 b1 b2 hx0
    rcases hw with ⟨p1, p2⟩ | ⟨p1, p2, p3, p4, p5⟩ | ⟨p1, p2, p3, p4, p5⟩ | ⟨p1, p2, p3, p4, p5⟩ | ⟨p1, p2, p3, p4, p5⟩ | ⟨p1, p2, p3, p4⟩
    all_goals
      go_wp2_with (go_at_call 24; refine (within_c _ _ _ _).mono ?_; rintro e w' ⟨rfl, rfl⟩)
      go_ret
      exact ⟨by simp [*], hx⟩
theorem valid1_c (r : RuleD) (b : Nat) (m : MachD) (w : World) (h : MachAt w b m) (h1 : 2 ≤ m.sy) (h2 : m.sy ≤ 6) (h3 : 1 ≤ m.st) (h4 : m.st ≤ 1000) :
    Calls Tryz.prog 82 #[.agg #[.int .i64 r.w, .int .i64 r.m, .int .i64 r.n], .pointer (some ⟨b, 0, none⟩)] w fun e w' => e = .returned (.bool (!ruleOk m.sy m.st r)) ∧ Ext w w' := by
  obtain ⟨rv, p0, p1, p2, hr⟩ := h
  go_enter Tryz.func82, Tryz.ntmps82
  have hx := Ext.alloc w (.cells #[.int .i64 r.w, .int .i64 r.m, .int .i64 r.n] 38)
  have q0 := hx.cell p0
  have q1 := hx.cell p1
  have q2 := hx.cell p2
  clear p0 p1 p2 hr
  go_wp2_with fail
  refine (validRule_c _ _ _ _ _ _ _ h1 h2 h3 h4).mono ?_
  rintro e w2 ⟨rfl, hx2⟩
  go_wp2
  go_ret
  exact ⟨rfl, hx.trans hx2⟩
/-- The first k rules are valid: none of them is found. -/
theorem indexRule_c (b : Nat) (m : MachD) (v : Value) (w : World) (hv : Rules w v m.rules) (h : MachAt w b m) (h1 : 2 ≤ m.sy) (h2 : m.sy ≤ 6) (h3 : 1 ≤ m.st) (h4 : m.st ≤ 1000) :
    Calls Tryz.prog 109 #[v, .func (.func 82) #[] #[.pointer (some ⟨b, 0, none⟩)]] w fun e w' => (∃ k : Int, e = .returned (.int .i64 k) ∧ (decide (0 ≤ k) = !(m.rules.all (ruleOk m.sy m.st)))) ∧ Ext w w' := by
  obtain ⟨A, c, rfl, h5, h5'⟩ := hv.form
  go_enter Tryz.func109, Tryz.ntmps109
  go_wp2
  go_loopw [8] (fun i wr => ∃ k : Nat, k ≤ m.rules.length ∧ i = .int .i64 k ∧ Ext w wr ∧ okTo m k) (fun i _ => m.rules.length - (intOf i).toNat)
  case atStart => exact ⟨0, Nat.zero_le _, rfl, Ext.refl _, rfl⟩
  case round =>
    obtain ⟨k, hk, rfl, hx, ht⟩ := hrel
    by_cases hlt : k < m.rules.length
    · obtain ⟨b', off, rfl, hc⟩ := hv.at hlt
      obtain ⟨c0, c1, c2⟩ := hc k hlt
      have c0 := hx.cell c0
      have c1 := hx.cell c1
      have c2 := hx.cell c2
      clear hc
      go_wp2_with fail
      refine (valid1_c m.rules[k] b m _ (h.ext hx) h1 h2 h3 h4).mono ?_
      rintro e w2 ⟨rfl, hx2⟩
      cases he : ruleOk m.sy m.st m.rules[k]
      · go_wp2
        go_ret
        exact ⟨⟨k, rfl, by simp [all_false hlt he]⟩, hx.trans hx2⟩
      · go_wp2
        go_roundw
        case rel => exact ⟨k + 1, by omega, by go_num, hx.trans hx2, okTo_step ht hlt he⟩
        case measure => simp [intOf]; omega
    · go_wp2
      go_ret
      exact ⟨⟨-1, rfl, by simp [okTo_end ht (by omega)]⟩, hx⟩
end Go.Proofs.YtacpchapgklcgaaGreatDoor
namespace Go.Proofs.YtacpchapgklcgaaGreatDoor
open Go Go.RowKit Go.Proofs
set_option maxHeartbeats 400000
theorem sizeRule_c (v : Value) (rs : List RuleD) (w : World) (h : Rules w v rs) : Calls Tryz.prog 80 #[v] w fun e w' => e = .returned (.int .i64 rs.length) ∧ w = w' := by
  obtain ⟨A, c, rfl, h1, h2⟩ := h.form
  go_enter Tryz.func80, Tryz.ntmps80
  go_wp2
  go_ret
  exact ⟨rfl, rfl⟩
theorem sizeInt_c (v : Value) (zs : List Int) (w : World) (h : Ints w v zs) : Calls Tryz.prog 40 #[v] w fun e w' => e = .returned (.int .i64 zs.length) ∧ w = w' := by
  obtain ⟨A, c, rfl, h1, h2⟩ := h.form
  go_enter Tryz.func40, Tryz.ntmps40
  go_wp2
  go_ret
  exact ⟨rfl, rfl⟩
theorem sizeOk_c (n : Int) (w : World) : Calls Tryz.prog 57 #[.int .i64 n] w fun e w' => e = .returned (.bool (inB n 1 9)) ∧ w = w' := by
  go_enter Tryz.func57, Tryz.ntmps57
  go_wp2_with (go_at_call 24; refine (within_c _ _ _ _).mono ?_; rintro e w' ⟨rfl, rfl⟩)
  go_ret
  exact ⟨rfl, rfl⟩
theorem containsRule_c (b : Nat) (m : MachD) (v : Value) (w : World) (hv : Rules w v m.rules) (h : MachAt w b m) (h1 : 2 ≤ m.sy) (h2 : m.sy ≤ 6) (h3 : 1 ≤ m.st) (h4 : m.st ≤ 1000) :
    Calls Tryz.prog 81 #[v, .func (.func 82) #[] #[.pointer (some ⟨b, 0, none⟩)]] w fun e w' => e = .returned (.bool (!(m.rules.all (ruleOk m.sy m.st)))) ∧ Ext w w' := by
  go_enter Tryz.func81, Tryz.ntmps81
  go_wp2_with fail
  refine (indexRule_c b m v _ hv h h1 h2 h3 h4).mono ?_
  rintro e w2 ⟨⟨k, rfl, hk⟩, hx2⟩
  have HK := Lib.hid hk
  clear hk
  go_wp2
  go_ret
  exact ⟨by simp [← HK.out], hx2⟩
theorem ValidMachine_c (v : Value) (m : MachD) (w : World) (h : Mach w v m) :
    Calls Tryz.prog 50 #[v] w fun e w' => e = .returned (.bool (machOk m)) ∧ Ext w w' := by
  obtain ⟨rv, rfl, hr⟩ := h
  obtain ⟨A, c, rfl, h2, h2'⟩ := hr.form
  obtain ⟨w1, bk, e1, e2, hx, hB, _, p0, p1, p2⟩ := box3 w (.int .i64 m.sy) (.int .i64 m.st) (.slice A m.rules.length c) 26
  have hr := hr.ext hx
  have d0 := cellR p0
  have d1 := cellR p1
  have d2 := cellR p2
  have hM : MachAt w1 bk m := ⟨_, p0, p1, p2, hr⟩
  have E1 := Lib.hid e1
  have E2 := Lib.hid e2
  clear e1 e2 hB
  cases hsy : inB m.sy 2 6
  · have H : machOk m = false := by simp [machOk, hsy]
    go_enter Tryz.func50, Tryz.ntmps50
    go_wp2
    rw [E1.out, E2.out]
    refine wp_region_ext (by kernel_rfl) (by kernel_rfl) ?_
    repeat (go_big_quiet_step ((first | (go_at_call 24; exact Calls.sameR (within_c _ _ _ _)) | (go_at_call 80; exact Calls.sameR (sizeRule_c _ _ _ (hr.ext (below_regrown _ _ _)))))))
    refine wpQuiet_nil ?_
    intro w2 hx2
    go_wp2
    go_ret
    exact ⟨by simp [H], hx.trans hx2⟩
  cases hst : inB m.st 1 1000
  · have H : machOk m = false := by simp [machOk, hst]
    go_enter Tryz.func50, Tryz.ntmps50
    go_wp2
    rw [E1.out, E2.out]
    refine wp_region_ext (by kernel_rfl) (by kernel_rfl) ?_
    repeat (go_big_quiet_step ((first | (go_at_call 24; exact Calls.sameR (within_c _ _ _ _)) | (go_at_call 80; exact Calls.sameR (sizeRule_c _ _ _ (hr.ext (below_regrown _ _ _)))))))
    refine wpQuiet_nil ?_
    intro w2 hx2
    go_wp2
    go_ret
    exact ⟨by simp [H], hx.trans hx2⟩
  obtain ⟨s1, s2⟩ := inB_iff.1 hsy
  obtain ⟨s3, s4⟩ := inB_iff.1 hst
  obtain ⟨s5, s6⟩ := mul_bounds s1 s2 s3 s4
  rw [Int.mul_comm] at s5 s6
  by_cases hl : (m.rules.length : Int) = m.sy * m.st
  · have hl1 : ((m.rules.length : Int) != m.st * m.sy) = false := by rw [Int.mul_comm m.st]; simp [hl]
    have HL := Lib.hid hl
    clear hl
    go_enter Tryz.func50, Tryz.ntmps50
    go_wp2
    rw [E1.out, E2.out]
    refine wp_region_ext (by kernel_rfl) (by kernel_rfl) ?_
    repeat (go_big_quiet_step ((first | (go_at_call 24; exact Calls.sameR (within_c _ _ _ _)) | (go_at_call 80; exact Calls.sameR (sizeRule_c _ _ _ (hr.ext (below_regrown _ _ _)))))))
    refine wpQuiet_nil ?_
    intro w2 hx2
    have p2' := hx2.cell p2
    clear d0 d1 d2
    go_wp2_with fail
    refine (containsRule_c bk m _ _ (hr.ext hx2) (hM.ext hx2) s1 s2 s3 s4).mono ?_
    rintro e w3 ⟨rfl, hx3⟩
    go_wp2
    go_ret
    exact ⟨by simp [machOk, hsy, hst, HL.out], (hx.trans hx2).trans hx3⟩
  · have hl1 : ((m.rules.length : Int) != m.st * m.sy) = true := by rw [Int.mul_comm m.st]; simp [hl]
    have H : machOk m = false := by simp [machOk, hl]
    clear hl
    go_enter Tryz.func50, Tryz.ntmps50
    go_wp2
    rw [E1.out, E2.out]
    refine wp_region_ext (by kernel_rfl) (by kernel_rfl) ?_
    repeat (go_big_quiet_step ((first | (go_at_call 24; exact Calls.sameR (within_c _ _ _ _)) | (go_at_call 80; exact Calls.sameR (sizeRule_c _ _ _ (hr.ext (below_regrown _ _ _)))))))
    refine wpQuiet_nil ?_
    intro w2 hx2
    go_wp2
    go_ret
    exact ⟨by simp [H], hx.trans hx2⟩
end Go.Proofs.YtacpchapgklcgaaGreatDoor
end
section
namespace Go.Proofs.YtacpchapgklcgaaGreatDoor
open Go Go.RowKit Go.Proofs
set_option maxHeartbeats 400000
theorem intInfo : (Tryz.prog.info? 2).map (fun i => (i.zero, i.size, i.bytes)) = some (some (.int .i64 0), 1, 8) := by kernel_rfl
def freeTo (rs : List RuleD) (k : Nat) : List Int := (List.range k).filterMap fun (j : Nat) => if rs[j]? = some noR then some (Int.ofNat j) else none
theorem freeTo_yes {rs : List RuleD} {k : Nat} (hk : k < rs.length) (h : rs[k] = noR) : freeTo rs (k + 1) = freeTo rs k ++ [(k : Int)] := by
  simp [freeTo, List.range_succ, hk, h]
theorem freeTo_no {rs : List RuleD} {k : Nat} (hk : k < rs.length) (h : ¬ rs[k] = noR) : freeTo rs (k + 1) = freeTo rs k := by
  simp [freeTo, List.range_succ, hk, h]
theorem freeTo_length (rs : List RuleD) (k : Nat) : (freeTo rs k).length ≤ k := by
  unfold freeTo
  exact Nat.le_trans (List.length_filterMap_le _ _) (by simp)
theorem isR_mk (r : RuleD) : isR ⟨r.w, r.m, r.n⟩ = isR r := rfl
theorem freeRules_c (v : Value) (m : MachD) (w : World) (h : Mach w v m) (hn : m.rules.length ≤ 6000) :
    Calls Tryz.prog 112 #[v] w fun e w' => ∃ u, e = .returned u ∧ OwnInts w.heap.size w' u (freeTo m.rules m.rules.length) ∧ Ext w w' := by
  obtain ⟨rv, rfl, hr⟩ := h
  obtain ⟨A, c, rfl, h2, h2'⟩ := hr.form
  obtain ⟨i0, hi, hz0, hz1, hz2⟩ := info_parts intInfo
  go_enter Tryz.func112, Tryz.ntmps112
  go_wp2
  have hx0 := (Ext.alloc w (.cells #[.int .i64 m.sy, .int .i64 m.st, .slice A m.rules.length c] 26)).trans (Ext.alloc _ (.cells #[] 2))
  have hown0 : ((w.alloc (.cells #[.int .i64 m.sy, .int .i64 m.st, .slice A m.rules.length c] 26)).alloc (.cells #[] 2)).ownsRow w.heap.size 2 1 (.slice (some ⟨w.heap.size + 1, 0, none⟩) 0 0) 0 [] := by
    have := World.ownsRow_made (base := w.heap.size) (e := 2) (size := 1) (w.alloc (.cells #[.int .i64 m.sy, .int .i64 m.st, .slice A m.rules.length c] 26)) #[] 0 (by simp) (by unfold maxLen; omega) (by simp)
    simpa using this
  generalize hW : (w.alloc (.cells #[.int .i64 m.sy, .int .i64 m.st, .slice A m.rules.length c] 26)).alloc (.cells #[] 2) = W at *
  clear hW
  go_loopw [3, 10] (fun l i wr => ∃ k : Nat, k ≤ m.rules.length ∧ i = .int .i64 k ∧ Ext w wr ∧ OwnInts w.heap.size wr l (freeTo m.rules k)) (fun _ i _ => m.rules.length - (intOf i).toNat)
  case atStart => exact ⟨0, Nat.zero_le _, rfl, hx0, hown0⟩
  case round =>
    obtain ⟨k, hk, rfl, hx, ho⟩ := hrel
    obtain ⟨Al, cl, rfl, h3, h3'⟩ := ho.ints.form
    have hfl := freeTo_length m.rules k
    clear hown0 hx0
    by_cases hlt : k < m.rules.length
    · obtain ⟨b', off, rfl, hc⟩ := hr.at hlt
      obtain ⟨c0, c1, c2⟩ := hc k hlt
      have c0 := hx.cell c0
      have c1 := hx.cell c1
      have c2 := hx.cell c2
      clear hc
      go_wp2_with fail
      refine (isRule_c _ _ _ _).mono ?_
      rintro e w2 ⟨rfl, hx2⟩
      have hx2' := (Ext.alloc _ _).trans hx2
      rw [isR_mk]
      have ho2 := ho.ext hx2'
      have hX := hx.trans hx2'
      clear c0 c1 c2 hx2 hx2'
      by_cases he : m.rules[k] = noR
      · have H : isR m.rules[k] = false := by simp [isR, rEq, he]
        have HE := Lib.hid (freeTo_yes hlt he)
        clear he
        go_wp2_with (at_builtin; refine wpList_append_own _ rfl _ _ 28 rfl w.heap.size 2 i0 (.int .i64 0) 1 8 Tryz.underlying28 hi hz0 hz1 hz2 rfl (by decide) _ _ _ rfl (ho2.alloc _) ⟨w2.heap.size, 0, none⟩ 1 1 [.int .i64 k] rfl rfl ?c1 ?c2 ?c3 ?c4 ?c5 ?_)
        case c1 =>
          intro j u hj
          match j, hj with
          | 0, hj => simp at hj; subst hj; simp [Addr.add]
        case c2 => intro u hu; simp at hu; subst hu; rfl
        case c3 => unfold maxLen; omega
        case c4 => omega
        case c5 => have := hX.size; simp; omega
        intro v' w3 hown' hgrow _
        have hX3 : Ext w w3 := hX.grown (grownBy_trans (World.grownBy_alloc _ _ _) hgrow) (fun b hb => (ho2.lt b hb).1)
        have R : OwnInts w.heap.size w3 v' (freeTo m.rules (k + 1)) := by
          rw [HE.out]
          unfold OwnInts
          rw [ivs_append, List.length_append]
          exact hown'
        clear hown' hgrow ho2 ho
        go_wp2
        go_roundw
        case rel => exact ⟨k + 1, by omega, by go_num, hX3, R⟩
        case measure => simp [intOf]; omega
      · have H : isR m.rules[k] = true := by simp [isR, rEq, he]
        have HE := Lib.hid (freeTo_no hlt he)
        clear he
        go_wp2
        go_roundw
        case rel => exact ⟨k + 1, by omega, by go_num, hX, by rw [HE.out]; exact ho2⟩
        case measure => simp [intOf]; omega
    · have hke : k = m.rules.length := by omega
      go_wp2
      go_ret
      exact ⟨_, rfl, hke ▸ ho, hx⟩
end Go.Proofs.YtacpchapgklcgaaGreatDoor
namespace Go.Proofs.YtacpchapgklcgaaGreatDoor
open Go Go.RowKit Go.Proofs
set_option maxHeartbeats 400000
theorem partInfo : (Tryz.prog.info? 101).map (fun i => (i.zero, i.size, i.bytes)) = some (some (.agg #[.int .i64 0, .int .i64 0, .slice none 0 0]), 3, 40) := by kernel_rfl
/-- Partial configurations, each a state and one symbol, in memory of the call's own. -/
def OwnParts (base : Nat) (w : World) (v : Value) (ps : List (Int × Int)) : Prop :=
  ∃ vs, w.ownsRow base 101 3 v ps.length vs ∧ ∀ i, (h : i < ps.length) → ∃ b, vs[i * 3]? = some (.int .i64 ps[i].1) ∧ vs[i * 3 + 1]? = some (.int .i64 0) ∧ vs[i * 3 + 2]? = some (.slice (some ⟨b, 0, none⟩) 1 1) ∧ Blk w b 2 #[.int .i64 ps[i].2]
theorem OwnParts.ext {base : Nat} {w w' : World} {v : Value} {ps : List (Int × Int)} (h : OwnParts base w v ps) (he : Ext w w') : OwnParts base w' v ps := by
  obtain ⟨vs, h1, h2⟩ := h
  refine ⟨vs, ownsRow_ext h1 he, fun i hi => ?_⟩
  obtain ⟨b, e0, e1, e2, hb⟩ := h2 i hi
  exact ⟨b, e0, e1, e2, hb.ext he⟩
theorem OwnParts.form {base : Nat} {w : World} {v : Value} {ps : List (Int × Int)} (h : OwnParts base w v ps) : ∃ A c, v = .slice A ps.length c ∧ ps.length ≤ c ∧ c ≤ 9223372036854775807 := by
  obtain ⟨vs, h1, _⟩ := h
  obtain ⟨A, c, hv, h1, h2, _⟩ := (ownsRow_row h1).form
  exact ⟨A, c, hv, h1, h2⟩
theorem OwnParts.at {base : Nat} {w : World} {A : Option Addr} {c : Nat} {ps : List (Int × Int)} (h : OwnParts base w (.slice A ps.length c) ps) {k : Nat} (hk : k < ps.length) :
    ∃ g, A = some ⟨g, 0, none⟩ ∧ ∃ b, w.cell? ⟨g, k * 3, none⟩ = some (.int .i64 ps[k].1) ∧ w.cell? ⟨g, k * 3 + 1, none⟩ = some (.int .i64 0) ∧ w.cell? ⟨g, k * 3 + 2, none⟩ = some (.slice (some ⟨b, 0, none⟩) 1 1) ∧ Blk w b 2 #[.int .i64 ps[k].2] := by
  obtain ⟨vs, h1, h2⟩ := h
  obtain ⟨g, rfl, _, _⟩ := own_at h1 (by omega)
  obtain ⟨b, e0, e1, e2, hb⟩ := h2 k hk
  exact ⟨g, rfl, b, by rw [h1.cellAt _ (by omega), e0], by rw [h1.cellAt _ (by omega), e1], by rw [h1.cellAt _ (by omega), e2], hb⟩
theorem OwnParts.snoc {base : Nat} {w w' : World} {v v' : Value} {ps : List (Int × Int)} {b : Nat} {q s : Int} {vs : List Value} (h1 : w.ownsRow base 101 3 v ps.length vs)
    (h2 : ∀ i, (h : i < ps.length) → ∃ b, vs[i * 3]? = some (.int .i64 ps[i].1) ∧ vs[i * 3 + 1]? = some (.int .i64 0) ∧ vs[i * 3 + 2]? = some (.slice (some ⟨b, 0, none⟩) 1 1) ∧ Blk w b 2 #[.int .i64 ps[i].2])
    (hb : Blk w b 2 #[.int .i64 s]) (ho : w'.ownsRow base 101 3 v' (ps.length + 1) (vs ++ [.int .i64 q, .int .i64 0, .slice (some ⟨b, 0, none⟩) 1 1])) (hg : w.grownBy w' v.ownBlock) :
    OwnParts base w' v' (ps ++ [(q, s)]) := by
  have hl := h1.1
  have keep : ∀ {b : Nat} {cs : Array Value}, Blk w b 2 cs → Blk w' b 2 cs := by
    intro b cs hb
    refine (hg.block b hb.lt ?_).trans hb
    intro e
    rcases h1.2 with ⟨rfl, _⟩ | ⟨g, cap, cur, rfl, _, hh, _⟩
    · simp [Value.ownBlock] at e
    · have : b = g := by simpa [Value.ownBlock] using e
      subst this
      unfold Blk at hb
      rw [hb] at hh
      injection hh with hh
      injection hh with _ ht
      exact absurd ht (by decide)
  refine ⟨_, by simpa using ho, fun i hi => ?_⟩
  by_cases h : i < ps.length
  · obtain ⟨b', e0, e1, e2, hb'⟩ := h2 i h
    refine ⟨b', ?_, ?_, ?_, ?_⟩
    · rw [List.getElem?_append_left (by omega), e0, List.getElem_append_left h]
    · rw [List.getElem?_append_left (by omega), e1]
    · rw [List.getElem?_append_left (by omega), e2]
    · rw [List.getElem_append_left h]; exact keep hb'
  · have hie : i = ps.length := by simp at hi; omega
    subst hie
    refine ⟨b, ?_, ?_, ?_, by simpa using keep hb⟩
    · rw [List.getElem?_append_right (by omega), hl]; simp
    · rw [List.getElem?_append_right (by omega), hl]; simp
    · rw [List.getElem?_append_right (by omega), hl]; simp
/-- The states and symbols of indices. -/
def partsOf (sy : Int) (zs : List Int) : List (Int × Int) := zs.map fun z => (z / sy, z % sy)
theorem freeTo_get (rs : List RuleD) (k j : Nat) (h : j < (freeTo rs k).length) : 0 ≤ (freeTo rs k)[j] ∧ (freeTo rs k)[j] < k := by
  have hm := List.getElem_mem h
  generalize (freeTo rs k)[j] = z at *
  simp only [freeTo, List.mem_filterMap, List.mem_range] at hm
  obtain ⟨i, hi, e⟩ := hm
  split at e
  · injection e with e; subst e; simp; omega
  · cases e
theorem partsOf_take (sy : Int) (zs : List Int) (k : Nat) (h : k < zs.length) : partsOf sy (zs.take (k + 1)) = partsOf sy (zs.take k) ++ [(zs[k] / sy, zs[k] % sy)] := by
  unfold partsOf; rw [List.take_succ_eq_append_getElem h, List.map_append]; rfl
theorem haltingPartials_c (v : Value) (m : MachD) (w : World) (h : Mach w v m) (hn : m.rules.length ≤ 6000) (h1 : 2 ≤ m.sy) (h2 : m.sy ≤ 6) :
    Calls Tryz.prog 86 #[v] w fun e w' => ∃ u, e = .returned u ∧ OwnParts w.heap.size w' u (partsOf m.sy (freeTo m.rules m.rules.length)) ∧ Ext w w' := by
  obtain ⟨rv, rfl, hr⟩ := h
  obtain ⟨A, c, rfl, h3, h3'⟩ := hr.form
  obtain ⟨i0, hi, hz0, hz1, hz2⟩ := info_parts partInfo
  go_enter Tryz.func86, Tryz.ntmps86
  go_wp2_with fail
  refine (freeRules_c _ m _ ⟨_, rfl, hr.ext ((Ext.alloc _ _).trans (Ext.alloc _ _))⟩ hn).mono ?_
  rintro e w1 ⟨u, rfl, hu, hx1⟩
  have hX : Ext w w1 := ((Ext.alloc _ _).trans (Ext.alloc _ _)).trans hx1
  have bM := ((Blk.new w w.heap.size _ _ rfl).alloc (.cells #[] 101)).ext hx1
  have hown0 : w1.ownsRow w.heap.size 101 3 (.slice (some ⟨w.heap.size + 1, 0, none⟩) 0 0) 0 [] := by
    refine ownsRow_ext ?_ hx1
    have := World.ownsRow_made (base := w.heap.size) (e := 101) (size := 3) (w.alloc (.cells #[.int .i64 m.sy, .int .i64 m.st, .slice A m.rules.length c] 26)) #[] 0 (by simp) (by unfold maxLen; omega) (by simp)
    simpa using this
  have hfg := freeTo_get m.rules m.rules.length
  have hfl := freeTo_length m.rules m.rules.length
  generalize hZ : freeTo m.rules m.rules.length = zs at *
  have HZ := Lib.hid hZ
  clear hZ
  obtain ⟨Az, cz, rfl, h5, h5'⟩ := hu.ints.form
  clear hx1 hr
  obtain ⟨bz, hu⟩ : ∃ bz, OwnInts bz w1 (.slice Az zs.length cz) zs := ⟨_, hu⟩
  go_wp2
  go_loopw [3, 10] (fun l i wr => ∃ k : Nat, k ≤ zs.length ∧ i = .int .i64 k ∧ Ext w wr ∧ OwnInts bz wr (.slice Az zs.length cz) zs ∧ Blk wr w.heap.size 26 #[.int .i64 m.sy, .int .i64 m.st, .slice A m.rules.length c] ∧ OwnParts w.heap.size wr l (partsOf m.sy (zs.take k))) (fun _ i _ => zs.length - (intOf i).toNat)
  case atStart => exact ⟨0, Nat.zero_le _, rfl, hX, hu, bM, ⟨[], by simpa [partsOf] using hown0, fun i hi => by simp [partsOf] at hi⟩⟩
  case round =>
    clear hX hu bM hown0
    obtain ⟨k, hk, rfl, hX, hu, bM, ho⟩ := hrel
    obtain ⟨Al, cl, rfl, h6, h6'⟩ := ho.form
    have hpl : (partsOf m.sy (zs.take k)).length = k := by simp [partsOf]; omega
    by_cases hlt : k < zs.length
    · obtain ⟨b', off, rfl, hc⟩ := hu.ints.at hlt
      have c0 := hc k hlt
      have cM := bM.cell 0
      simp only [List.getElem?_toArray, List.getElem?_cons_zero] at cM
      obtain ⟨g0, g1⟩ := hfg k hlt
      have HP := Lib.hid (partsOf_take m.sy zs k hlt)
      obtain ⟨vs, o1, o2⟩ := ho
      have HL := Lib.hid hpl
      clear hc hfg
      have hsz := hX.size
      have hkl : (partsOf m.sy (zs.take k)).length ≤ 6000 := by omega
      clear hpl
      have hs0 : ¬ m.sy = 0 := by omega
      have hq : IntKind.i64.wrap (zs[k].tdiv m.sy) = zs[k] / m.sy := by
        have e1 : 0 ≤ zs[k] / m.sy := Int.ediv_nonneg g0 (by omega)
        have e2 : zs[k] / m.sy ≤ zs[k] := Int.ediv_le_self _ g0
        rw [Int.tdiv_eq_ediv_of_nonneg g0]; exact IntWalk.i64_in _ (by omega)
      have hm : zs[k].tmod m.sy = zs[k] % m.sy := Int.tmod_eq_emod_of_nonneg g0
      generalize zs[k] / m.sy = q1 at *
      generalize zs[k] % m.sy = q2 at *
      go_wp2_with fail
      set_option maxRecDepth 20000 in
      go_region_held3 (fun w' => w'.cell? ⟨w.heap.size, 0, none⟩ = some (.int .i64 m.sy))
        (first | go_keep | exact hkeep)
        ((refine step_append_lies _ (by rfl) _ _ _ (by rfl) w.heap.size 101 i0 _ 3 40 Tryz.underlying102 hi hz0 hz1 hz2 rfl (by omega) _ _ vs (by rfl) (((o1.alloc _).alloc _).drew) ⟨wr.heap.size + 1, 0, none⟩ 1 1 [.int .i64 q1, .int .i64 0, .slice (some ⟨wr.heap.size, 0, none⟩) 1 1] (by rfl) (by rfl) (World.news_of_block (cs := #[.int .i64 q1, .int .i64 0, .slice (some ⟨wr.heap.size, 0, none⟩) 1 1]) (t := 101) (fr := (0, 0)) (Blk.new _ (wr.heap.size + 1) _ _ (by simp))) (by simp [Value.oneCell']) (by omega) (by unfold maxLen; omega) (by omega) (by simp; omega) (wr.heap.size + 1 + 1) (by simp) ?_;intro gg cap w3 hown3 hgrow hat hlt3; have bM3 := Blk.apart (((bM.alloc _).alloc _).drew) (((o1.alloc _).alloc _).drew) (by decide) hgrow; have hkeep := bM3.cell 0; simp only [List.getElem?_toArray, List.getElem?_cons_zero] at hkeep))
      have R : OwnParts w.heap.size w3 (.slice (some ⟨gg, 0, none⟩) ((partsOf m.sy (zs.take k)).length + 1) cap) (partsOf m.sy (zs.take (k + 1))) := by
        rw [HP.out]
        refine OwnParts.snoc (((o1.alloc _).alloc _).drew) (fun i hi => ?_) (((Blk.new wr wr.heap.size _ _ rfl).alloc _).drew) hown3 hgrow
        obtain ⟨b, e0, e1, e2, hb⟩ := o2 i hi
        exact ⟨b, e0, e1, e2, ((hb.alloc _).alloc _).drew⟩
      have hX3 : Ext w w3 := (((hX.trans (Ext.alloc _ _)).trans (Ext.alloc _ _)).trans (Ext.drew _)).grown hgrow (fun b hb => (o1.lt b hb).1)
      have hu3 : OwnInts bz w3 (.slice (some ⟨b', off, none⟩) zs.length cz) zs := World.ownsRow.kept (((hu.alloc _).alloc _).drew) hgrow (own_ne hu o1 (by decide))
      clear o1 o2 hown3 hgrow hat hu c0 cM hkeep bM
      go_wp2
      go_roundw
      case rel => exact ⟨k + 1, by omega, by go_num, hX3, hu3, bM3, R⟩
      case measure => simp [intOf]; omega
    · have hke : zs.take k = zs := List.take_of_length_le (by omega)
      have HK := Lib.hid hke
      clear hke hpl
      go_wp2
      go_ret
      exact ⟨_, rfl, by rw [HZ.out]; have := ho; rw [HK.out] at this; rw [HK.out]; exact this, hX⟩
end Go.Proofs.YtacpchapgklcgaaGreatDoor
namespace Go.Proofs.YtacpchapgklcgaaGreatDoor
open Go Go.RowKit Go.Proofs
set_option maxHeartbeats 400000
theorem partsOf_yes {sy : Int} {rs : List RuleD} {k : Nat} (hk : k < rs.length) (h : rs[k] = noR) : partsOf sy (freeTo rs (k + 1)) = partsOf sy (freeTo rs k) ++ [((k : Int) / sy, (k : Int) % sy)] := by
  rw [freeTo_yes hk h]; simp [partsOf]
/-- A machine in a block of its own. -/
def MachBlk (w : World) (b : Nat) (m : MachD) (rv : Value) : Prop := Blk w b 26 #[.int .i64 m.sy, .int .i64 m.st, rv]
end Go.Proofs.YtacpchapgklcgaaGreatDoor
end
section
namespace Go.Proofs.YtacpchapgklcgaaGreatDoor
open Go Go.RowKit Go.Proofs
set_option maxHeartbeats 400000
theorem intSize (w : World) : (Go.sizeOf 2).run Tryz.prog w = .ok 1 w := by kernel_rfl
theorem ivs_one (zs : List Int) : ∀ u ∈ ivs zs, u.oneCell' = true := by
  intro u hu
  simp only [ivs, List.mem_map] at hu
  obtain ⟨z, _, rfl⟩ := hu
  rfl
theorem ints_cells {w : World} {b off : Nat} {zs : List Int} (hc : ∀ j, (hj : j < zs.length) → w.cell? ⟨b, off + j, none⟩ = some (.int .i64 zs[j])) : ∀ j u, (ivs zs)[j]? = some u → w.cell? ⟨b, off + j, none⟩ = some u := by
  intro j u hj
  obtain ⟨hl, _⟩ := List.getElem?_eq_some_iff.1 hj
  rw [ivs_length] at hl
  rw [ivs_get zs j hl] at hj
  injection hj with hj
  subst hj
  exact hc j hl
theorem Clone_c (v : Value) (zs : List Int) (w : World) (h : Ints w v zs) (h0 : 0 < zs.length) (h1 : zs.length ≤ 1048576) :
    Calls Tryz.prog 125 #[v] w fun e w' => ∃ u, e = .returned u ∧ OwnInts w.heap.size w' u zs ∧ Ext w w' := by
  obtain ⟨i0, hi, hz0, hz1, hz2⟩ := info_parts intInfo
  obtain ⟨A, c, rfl, _, _⟩ := h.form
  obtain ⟨b, off, rfl, hc⟩ := h.at h0
  have hm : zs.length ≤ maxLen := by unfold maxLen; omega
  refine (Tryz.slices_Clone i0 _ 1 8 hi hz0 hz1 hz2 rfl (by omega) intSize b off zs.length c (ivs zs) w (by simp) hm (by omega) (ints_cells hc) (ivs_one zs)).mono ?_
  rintro e w' ⟨u, rfl, ho, _, hb⟩
  exact ⟨u, rfl, ho, hb⟩
/-- A node with a place, a state, and a symbol at a cell. -/
def segNode (x : List Int) (place state symbol : Int) : List Int :=
  if 0 ≤ place ∧ place ≤ (x.length : Int) - 3 then ((x.set 0 place).set 1 state).set (2 + place).toNat symbol else (x.set 0 place).set 1 state
theorem ivs_set (zs : List Int) (k : Nat) (a : Int) : ivs (zs.set k a) = (ivs zs).set k (.int .i64 a) := by simp [ivs, List.map_set]
@[simp] theorem segNode_length (x : List Int) (a b c : Int) : (segNode x a b c).length = x.length := by unfold segNode; split <;> simp
theorem segmentNode_c (v : Value) (zs : List Int) (p s y : Int) (w : World) (h : Ints w v zs) (h0 : 3 ≤ zs.length) (h1 : zs.length ≤ 1048576) (hp : -1 ≤ p) (hp' : p ≤ 1048576) :
    Calls Tryz.prog 98 #[v, .int .i64 p, .int .i64 s, .int .i64 y] w fun e w' => ∃ u, e = .returned u ∧ OwnInts w.heap.size w' u (segNode zs p s y) ∧ Ext w w' := by
  go_enter Tryz.func98, Tryz.ntmps98
  go_wp2_with fail
  refine (Clone_c v zs w h (by omega) h1).mono ?_
  rintro e w1 ⟨u, rfl, ho, hx⟩
  obtain ⟨A, c, rfl, _, _⟩ := ho.ints.form
  obtain ⟨g, rfl, hb, hgl⟩ := own_at ho (by omega)
  have q0 := ho.cellAt 0 (by omega)
  have q1 := ho.cellAt 1 (by omega)
  rw [ivs_get zs 0 (by omega)] at q0
  rw [ivs_get zs 1 (by omega)] at q1
  have f0 := ho.frozenAt 0
  have f1 := ho.frozenAt 1
  have hl3 : (1 : Int) < (zs.length : Int) := by omega
  have hl4 : (0 : Int) < (zs.length : Int) := by omega
  have hE : Ext w ((w1.setCell ⟨g, 0, none⟩ (.int .i64 p)).setCell ⟨g, 1, none⟩ (.int .i64 s)) := (hx.setCell hb _).setCell hb _
  have h2 := ((ho.stored 0 (.int .i64 p)).1.stored 1 (.int .i64 s)).1
  go_wp2_with fail
  rw [← ivs_set, ← ivs_set] at h2
  generalize (w1.setCell ⟨g, 0, none⟩ (.int .i64 p)).setCell ⟨g, 1, none⟩ (.int .i64 s) = w2 at *
  clear q0 q1 f0 f1 hl3 hl4 ho hgl hx
  refine (sizeInt_c v zs w2 (h.ext hE)).mono ?_
  rintro e w' ⟨rfl, rfl⟩
  go_wp2_with fail
  refine (within_c _ _ _ _).mono ?_
  rintro e w' ⟨rfl, rfl⟩
  by_cases hin : 0 ≤ p ∧ p ≤ (zs.length : Int) - 3
  · have H : inB p 0 ((zs.length : Int) - 3) = true := inB_true hin
    have HS : Hid (segNode zs p s y = ((zs.set 0 p).set 1 s).set (2 + p).toNat y) := by unfold Hid segNode; rw [if_pos hin]
    obtain ⟨n1, n2⟩ := hin
    obtain ⟨k, rfl⟩ := Int.eq_ofNat_of_zero_le n1
    have e2 : (2 + (k : Int)).toNat = 2 + k := by omega
    rw [e2] at HS
    clear e2
    have q0 := h2.cellAt (2 + k) (by omega)
    rw [ivs_get _ _ (by simp; omega)] at q0
    have f0 := h2.frozenAt (2 + k)
    have hE2 := hE.setCell (p := ⟨g, 2 + k, none⟩) hb (.int .i64 y)
    have h3 := (h2.stored (2 + k) (.int .i64 y)).1
    rw [← ivs_set] at h3
    go_wp2
    go_ret
    refine ⟨_, rfl, ?_, hE2⟩
    rw [HS.out]
    show World.ownsRow _ _ _ _ _ _ _
    simpa using h3
  · have H : inB p 0 ((zs.length : Int) - 3) = false := by rw [Bool.eq_false_iff]; intro h; exact hin (inB_iff.1 h)
    have HS : Hid (segNode zs p s y = (zs.set 0 p).set 1 s) := by unfold Hid segNode; rw [if_neg hin]
    clear hin
    go_wp2
    go_ret
    refine ⟨_, rfl, ?_, hE⟩
    rw [HS.out]
    show World.ownsRow _ _ _ _ _ _ _
    simpa using h2
end Go.Proofs.YtacpchapgklcgaaGreatDoor
namespace Go.Proofs.YtacpchapgklcgaaGreatDoor
open Go Go.RowKit Go.Proofs
set_option maxHeartbeats 400000
theorem intSize' : (Tryz.prog.info? 2).map (·.size) = some 1 := by kernel_rfl
/-- Of c cells the first j hold the number. -/
def RepSt (w : World) (g c : Nat) (z : Int) (j : Nat) (wr : World) : Prop := Ext w wr ∧ ∃ cur : List Value, wr.heap[g]? = some (.cells cur.toArray 2 (0, 0)) ∧ cur.length = c ∧ cur.take j = List.replicate j (.int .i64 z)
theorem splice_take {cur : List Value} {j m : Nat} {u : Value} (h : cur.take j = List.replicate j u) (_ : j ≤ cur.length) (_ : j + m ≤ cur.length) : (splice cur j (List.replicate m u)).take (j + m) = List.replicate (j + m) u := by
  unfold splice
  rw [h, ← List.append_assoc, List.replicate_append_replicate, List.take_append_of_le_length (by simp), List.take_of_length_le (by simp)]
theorem mulHi {c : Nat} (h : c ≤ 11) : 1 * c / 18446744073709551616 = 0 := by omega
theorem mulLo {c : Nat} (h : c ≤ 11) : 1 * c % 18446744073709551616 = c := by omega
theorem mulC {c : Nat} (h : c ≤ 11) : c < 18446744073709551616 := by omega
set_option maxRecDepth 100000 in
theorem Repeat_c (b c : Nat) (z : Int) (w : World) (hb : Blk w b 2 #[.int .i64 z]) (h1 : 1 ≤ c) (h2 : c ≤ 11) :
    Calls Tryz.prog 97 #[.slice (some ⟨b, 0, none⟩) 1 1, .int .i64 c] w fun e w' => ∃ u, e = .returned u ∧ OwnInts w.heap.size w' u (List.replicate c z) ∧ Ext w w' := by
  obtain ⟨i0, hi, hz0, hz1, hz2⟩ := info_parts intInfo
  go_enter Tryz.func97, Tryz.ntmps97
  go_wp2_with fail
  refine (Tryz.bits_Mul 1 c (by decide) (mulC h2) _).mono ?_
  rintro e w' ⟨rfl, rfl⟩
  rw [mulHi h2, mulLo h2]
  go_wp2_with (at_make; refine wpList_make_full _ rfl _ _ 28 rfl w'.heap.size 2 i0 _ 1 Tryz.underlying28 hi hz0 hz1 .i64 .i64 _ _ c rfl rfl ?d1 ?d2 ?c1 ?c2 ?c3 ?_)
  case d1 => rfl
  case d2 => rfl
  case c1 => rw [hz2]; omega
  case c2 => unfold maxLen; omega
  case c3 => exact Nat.le_refl _
  intro w1 hown hgr
  have hx1 : Ext w' w1 := (Ext.refl _).grown hgr (by simp)
  obtain ⟨cur, hg, hcl⟩ : ∃ cur : List Value, w1.heap[w'.heap.size]? = some (.cells cur.toArray 2 (0, 0)) ∧ cur.length = c := by
    rcases hown.2 with ⟨h', _⟩ | ⟨g', cap, cu, h', _, hg, _, _, hcs, _⟩
    · simp at h'
    · injection h' with e1 e2 e3
      injection e1 with e1
      injection e1 with e1 e4 e5
      subst e1 e3
      exact ⟨cu.toList, by simpa using hg, by simpa using hcs⟩
  have hsrc := (hb.ext hx1).cell 0
  simp only [List.getElem?_toArray, List.getElem?_cons_zero] at hsrc
  have hgb : b < w'.heap.size := hb.lt
  clear hown hgr hi hz0 hz1 hz2
  generalize hG : w'.heap.size = g at *
  have HG := Lib.hid hG
  have HCL := Lib.hid hcl
  clear hG hcl
  go_wp2_with (with_reducible refine wpList_copy_splice rfl _ _ 28 28 rfl 2 Tryz.underlying28 intSize' (some ⟨g, 0, none⟩) (some ⟨b, 0, none⟩) c c 1 1 rfl rfl g 0 cur 2 hg [.int .i64 z] ?k1 ?k2 ?k3 ?k4 g w' ?k5 ?k6 ?_)
  case k1 => show 1 = min 1 c; omega
  case k2 =>
    intro j u hj
    match j, hj with
    | 0, hj => simp at hj; subst hj; exact hsrc
  case k3 => have := HCL.out; simp; omega
  case k4 => intro u hu; simp at hu; subst hu; rfl
  case k5 => rw [← HG.out]; exact hx1
  case k6 => exact Nat.le_refl _
  intro w2 hg2 hbl2
  have hS : RepSt w' g c z 1 w2 := by
    refine ⟨by unfold Ext; rw [HG.out]; exact hbl2, _, hg2.out, ?_, ?_⟩
    · rw [length_splice _ _ _ (by have := HCL.out; simp; omega)]; exact HCL.out
    · simp [splice]
  clear hg hg2 hbl2 hsrc hx1
  go_wp2
  go_loopw [8] (fun i wr => ∃ j : Nat, 1 ≤ j ∧ j ≤ c ∧ i = .int .i64 j ∧ RepSt w' g c z j wr) (fun i _ => c - (intOf i).toNat)
  case atStart => exact ⟨1, Nat.le_refl _, h1, rfl, hS⟩
  case round =>
    clear hS
    obtain ⟨j, hj1, hj, rfl, hS⟩ := hrel
    by_cases hlt : j < c
    · obtain ⟨hx, cu, hgu, hcu, htk⟩ := hS
      have HCU := Lib.hid hcu
      have HTK := Lib.hid htk
      clear hcu htk
      have hcs : (List.replicate (min j (c - j)) (Value.int .i64 z)).length = Nat.min j (c - j) := by simp
      have hn0 : ¬ c = j := by omega
      have hj0 : (0 : Int) ≤ (j : Int) := by omega
      have hj2 : (j : Int) ≤ (c : Int) := by omega
      have hfit : j + (List.replicate (min j (c - j)) (Value.int .i64 z)).length ≤ cu.length := by have := HCU.out; simp; omega
      have h1c : ∀ u ∈ List.replicate (min j (c - j)) (Value.int .i64 z), u.oneCell' = true := fun u hu => by rw [List.eq_of_mem_replicate hu]; rfl
      have hcells : ∀ k u, (List.replicate (min j (c - j)) (Value.int .i64 z))[k]? = some u → wr.cell? ((⟨g, 0, none⟩ : Addr).add k) = some u := by
        intro k u hk
        have hk' : k < min j (c - j) := by simpa using (List.getElem?_eq_some_iff.1 hk).1
        have hadd : (⟨g, 0, none⟩ : Addr).add k = ⟨g, k, none⟩ := by unfold Addr.add; split <;> simp_all
        rw [hadd, cell_of_row wr g k _ _ (0, 0) hgu]
        have e : (cu.take j)[k]? = some (Value.int .i64 z) := by rw [HTK.out, List.getElem?_replicate, if_pos (by omega)]
        rw [List.getElem?_take, if_pos (by omega)] at e
        simp only [List.getElem?_toArray, e]
        rw [List.getElem?_replicate, if_pos hk'] at hk
        exact hk
      have hbl : Below g w' wr := by have := hx; unfold Ext at this; rwa [HG.out] at this
      have hsz : (hb.ext hx).cell 0 = (hb.ext hx).cell 0 := rfl
      have hcb := (hb.ext hx).cell 0
      simp only [List.getElem?_toArray, List.getElem?_cons_zero] at hcb
      have HN := Lib.hid hcs
      have HF := Lib.hid hfit
      have H1 := Lib.hid h1c
      have HC := Lib.hid hcells
      clear hcs hfit h1c hcells hsz
      go_wp2_with fail
      go_region_held3 (fun w' => w'.cell? ⟨b, 0, none⟩ = some (.int .i64 z))
        (first | go_keep | exact hkeep)
        ((refine step_copy_splice (by rfl) _ _ 28 28 (by rfl) 2 Tryz.underlying28 intSize' (some ⟨g, j, none⟩) (some ⟨g, 0, none⟩) (c - j) (c - j) j c (by rfl) (by rfl) g j cu 2 hgu (List.replicate (min j (c - j)) (Value.int .i64 z)) HN.out (fun _ => ⟨rfl, _, rfl, HC.out⟩) HF.out H1.out g w' hbl.drew (Nat.le_refl _) ?_; intro w3 hg3 hbl3; have hkeep := (hbl3.cell (p := ⟨b, 0, none⟩) hgb).trans (hb.cell 0); simp only [List.getElem?_toArray, List.getElem?_cons_zero] at hkeep))
      have hS3 : RepSt w' g c z (j + min j (c - j)) w3 := by
        refine ⟨by unfold Ext; rw [HG.out]; exact hbl3, _, hg3.out, ?_, ?_⟩
        · rw [length_splice _ _ _ HF.out]; exact HCU.out
        · exact splice_take HTK.out (by have := HCU.out; omega) (by have := HF.out; simpa using this)
      have hwr : IntKind.i64.wrap ((j : Int) + ((min j (c - j) : Nat) : Int)) = ((j + min j (c - j) : Nat) : Int) := by
        rw [IntWalk.i64_in _ (by omega)]; omega
      rw [hwr]
      have hm1 : 1 ≤ min j (c - j) := by omega
      have hm2 : j + min j (c - j) ≤ c := by omega
      clear hwr hbl3 hg3 hgu hcb hkeep hbl
      generalize min j (c - j) = mm at *
      go_wp2
      go_roundw
      case rel => exact ⟨j + mm, by omega, by omega, rfl, hS3⟩
      case measure => simp [intOf]; omega
    · have hje : j = c := by omega
      subst hje
      go_wp2
      go_ret
      obtain ⟨hx, cu, hgu, hcu, htk⟩ := hS
      refine ⟨_, rfl, ⟨by simp, .inr ⟨g, j, cu.toArray, by simp, by rw [HG.out]; exact Nat.le_refl _, hgu, by simp, by unfold maxLen; omega, by simpa using hcu, ?_⟩⟩, hx⟩
      simp only [List.length_replicate, Nat.mul_one, ivs, List.map_replicate]
      exact htk
end Go.Proofs.YtacpchapgklcgaaGreatDoor
namespace Go.Proofs.YtacpchapgklcgaaGreatDoor
open Go Go.RowKit Go.Proofs
set_option maxHeartbeats 400000
theorem rowInfo : (Tryz.prog.info? 28).map (fun i => (i.zero, i.size, i.bytes)) = some (some (.slice none 0 0), 1, 24) := by kernel_rfl
/-- A row is appended. -/
theorem OwnIntRows.snoc {base : Nat} {w w' : World} {v v' u : Value} {xss : List (List Int)} {ys : List Int} {vs : List Value} (h1 : w.ownsRow base 28 1 v xss.length vs)
    (h2 : ∀ i, (h : i < xss.length) → ∃ u, vs[i]? = some u ∧ OwnInts base w u xss[i])
    (h3 : ∀ (i j : Nat) (u u' : Value) (g : Nat), vs[i]? = some u → vs[j]? = some u' → u.ownBlock = some g → u'.ownBlock = some g → i = j)
    (hu : OwnInts base w u ys) (hne : ∀ (i : Nat) (u' : Value) (g : Nat), vs[i]? = some u' → u'.ownBlock = some g → u.ownBlock ≠ some g)
    (ho : w'.ownsRow base 28 1 v' (xss.length + 1) (vs ++ [u])) (hg : w.grownBy w' v.ownBlock) : OwnIntRows base w' v' (xss ++ [ys]) := by
  have hl := h1.1
  have keep : ∀ {x : Value} {zs : List Int}, OwnInts base w x zs → OwnInts base w' x zs := fun hx => World.ownsRow.kept hx hg (own_ne hx h1 (by decide))
  refine ⟨vs ++ [u], by simpa using ho, fun i hi => ?_, ?_⟩
  · by_cases h : i < xss.length
    · obtain ⟨x, e, hx⟩ := h2 i h
      exact ⟨x, by rw [List.getElem?_append_left (by omega), e], by rw [List.getElem_append_left h]; exact keep hx⟩
    · have hie : i = xss.length := by simp at hi; omega
      subst hie
      exact ⟨u, by rw [List.getElem?_append_right (by omega)]; simp [hl], by simpa using keep hu⟩
  · intro i j x y g hx hy hgx hgy
    have hlv : vs.length = xss.length := by omega
    by_cases hi : i < vs.length <;> by_cases hj : j < vs.length
    · rw [List.getElem?_append_left hi] at hx
      rw [List.getElem?_append_left hj] at hy
      exact h3 i j x y g hx hy hgx hgy
    · rw [List.getElem?_append_left hi] at hx
      rw [List.getElem?_append_right (by omega)] at hy
      have : u = y := by
        have := (List.getElem?_eq_some_iff.1 hy).1
        have e : j - vs.length = 0 := by simp at this; omega
        rw [e] at hy; simpa using hy
      subst this
      exact absurd hgy (hne i x g hx hgx)
    · rw [List.getElem?_append_right (by omega)] at hx
      rw [List.getElem?_append_left hj] at hy
      have : u = x := by
        have := (List.getElem?_eq_some_iff.1 hx).1
        have e : i - vs.length = 0 := by simp at this; omega
        rw [e] at hx; simpa using hx
      subst this
      exact absurd hgx (hne j y g hy hgy)
    · rw [List.getElem?_append_right (by omega)] at hx hy
      have a1 := (List.getElem?_eq_some_iff.1 hx).1
      have a2 := (List.getElem?_eq_some_iff.1 hy).1
      simp at a1 a2
      omega
/-- The rows of a list lie below the heap's end: a row that is made later lies in another block. -/
theorem rows_ne {base : Nat} {w w' : World} {u : Value} {xss : List (List Int)} {ys : List Int} {vs : List Value} {n : Nat} {v : Value} (h1 : w.ownsRow base 28 1 v n vs) (hn : n = xss.length)
    (h2 : ∀ i, (h : i < xss.length) → ∃ u, vs[i]? = some u ∧ OwnInts base w u xss[i]) (hu : OwnInts w.heap.size w' u ys) :
    ∀ (i : Nat) (u' : Value) (g : Nat), vs[i]? = some u' → u'.ownBlock = some g → u.ownBlock ≠ some g := by
  intro i u' g hi hg hg'
  have hl := h1.1
  have hil : i < xss.length := by have := (List.getElem?_eq_some_iff.1 hi).1; omega
  obtain ⟨x, e, hx⟩ := h2 i hil
  rw [hi] at e
  injection e with e
  subst e
  have a := (hx.lt g hg).2
  have b := (hu.lt g hg').1
  omega
theorem OwnParts.apart {b : Nat} {w w' : World} {v l : Value} {ps : List (Int × Int)} (h : OwnParts b w v ps) {base n : Nat} {vs : List Value} (ho : w.ownsRow base 28 1 l n vs) (hg : w.grownBy w' l.ownBlock) : OwnParts b w' v ps := by
  obtain ⟨us, h1, h2⟩ := h
  refine ⟨us, World.ownsRow.kept h1 hg (own_ne h1 ho (by decide)), fun i hi => ?_⟩
  obtain ⟨c, e0, e1, e2, hb⟩ := h2 i hi
  exact ⟨c, e0, e1, e2, hb.apart ho (by decide) hg⟩
/-- The nodes at which a machine halts. -/
def startsOf (n : Nat) (ps : List (Int × Int)) : List (List Int) := ps.map fun p => segNode (List.replicate (n + 2) (-1)) ((n : Int) / 2) p.1 p.2
theorem startsOf_take (n : Nat) (ps : List (Int × Int)) (k : Nat) (h : k < ps.length) : startsOf n (ps.take (k + 1)) = startsOf n (ps.take k) ++ [segNode (List.replicate (n + 2) (-1)) ((n : Int) / 2) ps[k].1 ps[k].2] := by
  unfold startsOf; rw [List.take_succ_eq_append_getElem h, List.map_append]; rfl
theorem OwnInts.base {b b' : Nat} {w : World} {v : Value} {zs : List Int} (h : OwnInts b w v zs) (hb : b' ≤ b) : OwnInts b' w v zs := ownsRow_base h hb
set_option maxHeartbeats 1600000 in
theorem segmentStarts_c (v : Value) (m : MachD) (n : Nat) (w : World) (h : Mach w v m) (hn : m.rules.length ≤ 6000) (h1 : 2 ≤ m.sy) (h2 : m.sy ≤ 6) (n1 : 1 ≤ n) (n2 : n ≤ 9) :
    Calls Tryz.prog 64 #[v, .int .i64 n] w fun e w' => ∃ u, e = .returned u ∧ OwnIntRows w.heap.size w' u (startsOf n (partsOf m.sy (freeTo m.rules m.rules.length))) ∧ Ext w w' := by
  obtain ⟨rv, rfl, hr⟩ := h
  obtain ⟨i0, hi, hz0, hz1, hz2⟩ := info_parts rowInfo
  have hps : (partsOf m.sy (freeTo m.rules m.rules.length)).length ≤ 6000 := by have := freeTo_length m.rules m.rules.length; simp [partsOf]; omega
  go_enter Tryz.func64, Tryz.ntmps64
  obtain ⟨Ar, cr, rfl, _, _⟩ := hr.form
  go_wp2_with fail
  refine (haltingPartials_c _ m _ ⟨_, rfl, hr.ext ((Ext.alloc _ _).trans (Ext.alloc _ _))⟩ hn h1 h2).mono ?_
  rintro e w1 ⟨u, rfl, hu, hx1⟩
  have hX : Ext w w1 := ((Ext.alloc _ _).trans (Ext.alloc _ _)).trans hx1
  have hown0 : w1.ownsRow w.heap.size 28 1 (.slice (some ⟨w.heap.size + 1, 0, none⟩) 0 0) 0 [] := by
    refine ownsRow_ext ?_ hx1
    have := World.ownsRow_made (base := w.heap.size) (e := 28) (size := 1) (w.alloc (.cells #[.int .i64 m.sy, .int .i64 m.st, .slice Ar m.rules.length cr] 26)) #[] 0 (by simp) (by unfold maxLen; omega) (by simp)
    simpa using this
  generalize hZ : partsOf m.sy (freeTo m.rules m.rules.length) = ps at *
  have HZ := Lib.hid hZ
  clear hZ
  obtain ⟨bz, hu⟩ : ∃ bz, OwnParts bz w1 u ps := ⟨_, hu⟩
  obtain ⟨Az, cz, rfl, h5, h5'⟩ := hu.form
  clear hx1 hr
  go_wp2
  go_loopw [5, 13] (fun l i wr => ∃ k : Nat, k ≤ ps.length ∧ i = .int .i64 k ∧ Ext w wr ∧ OwnParts bz wr (.slice Az ps.length cz) ps ∧ OwnIntRows w.heap.size wr l (startsOf n (ps.take k))) (fun _ i _ => ps.length - (intOf i).toNat)
  case atStart => exact ⟨0, Nat.zero_le _, rfl, hX, hu, ⟨[], by simpa [startsOf] using hown0, fun i hi => by simp [startsOf] at hi, fun i j u u' g hi => by simp at hi⟩⟩
  case round =>
    clear hX hu hown0
    obtain ⟨k, hk, rfl, hX, hu, ho⟩ := hrel
    have hsl : (startsOf n (ps.take k)).length = k := by simp [startsOf]; omega
    obtain ⟨Al, cl, rfl, h6, h6'⟩ := ho.rows.form
    by_cases hlt : k < ps.length
    · obtain ⟨gz, rfl, bc, c0, c1, c2, c3⟩ := hu.at hlt
      have HP := Lib.hid (startsOf_take n ps k hlt)
      have HL := Lib.hid hsl
      have hkl : (startsOf n (ps.take k)).length ≤ 6000 := by omega
      clear hsl
      go_wp2_with fail
      refine (Repeat_c (wr.heap.size + 1) (n + 2) (-1) _ (Blk.new _ _ _ _ (by simp)) (by omega) (by omega)).mono ?_
      rintro e wq ⟨uq, rfl, huq, hxq⟩
      have hL3 : 3 ≤ (List.replicate (n + 2) (-1 : Int)).length := by simp; omega
      have hL4 : (List.replicate (n + 2) (-1 : Int)).length ≤ 1048576 := by simp; omega
      generalize List.replicate (n + 2) (-1 : Int) = L at *
      obtain ⟨Aq, cq, rfl, _, _⟩ := huq.ints.form
      have hXq : Ext wr wq := ((Ext.alloc _ _).trans (Ext.alloc _ _)).trans hxq
      have bX := ((Blk.new wr wr.heap.size _ _ rfl).alloc (.cells #[.int .i64 (-1)] 2)).ext hxq
      have k0 := bX.cell 0
      have k1 := bX.cell 2
      simp only [List.getElem?_toArray, List.getElem?_cons_zero, List.getElem?_cons_succ] at k0 k1
      have bC := c3.ext hXq
      have k2 := bC.cell 0
      simp only [List.getElem?_toArray, List.getElem?_cons_zero] at k2
      have hup : OwnParts bz wq (.slice (some ⟨gz, 0, none⟩) ps.length cz) ps := hu.ext hXq
      have ho := ho.ext hXq
      have hX := hX.trans hXq
      have hui := huq.ints
      clear c0 c1 c2 c3 hxq hXq hu huq
      generalize hps1 : ps[k].1 = pq at *
      generalize hps2 : ps[k].2 = py at *
      clear hps1 hps2
      obtain ⟨vs, o1, o2, o3⟩ := ho
      obtain ⟨hh, hd0⟩ : ∃ q, (n : Int) / 2 = q := ⟨_, rfl⟩
      have hd1 : (n : Int).tdiv 2 = hh := by rw [Int.tdiv_eq_ediv_of_nonneg (by omega)]; exact hd0
      have hd2 : IntKind.i64.wrap hh = hh := IntWalk.i64_in _ (by omega)
      have hd3 : 0 ≤ hh := by omega
      have hd4 : hh ≤ 9 := by omega
      rw [hd0] at HP
      have hsz := hX.size
      have x0 := (Ext.drew wq).cell k0
      have x1 := (Ext.drew wq).cell k1
      have x2 := (Ext.drew wq).cell k2
      go_wp2_with fail
      set_option maxRecDepth 20000 in
      go_region_held3 (fun w' => w'.cell? ⟨wr.heap.size, 0, none⟩ = some (.int .i64 pq) ∧ w'.cell? ⟨wr.heap.size, 2, none⟩ = some (.slice (some ⟨bc, 0, none⟩) 1 1) ∧ w'.cell? ⟨bc, 0, none⟩ = some (.int .i64 py))
        (first | go_keep | exact ⟨hx3.cell x0, hx3.cell x1, hx3.cell x2⟩ | exact ⟨l0, l1, l2⟩)
        (first
          | (go_at_call 98; ((with_reducible refine (segmentNode_c _ L hh pq py _ (hui.ext (Ext.drew _)) hL3 hL4 (by omega) (by omega)).mono ?_)); rintro e w3 ⟨u3, rfl, hu3, hx3⟩; obtain ⟨A3, c3, rfl, _, _⟩ := hu3.ints.form)
          | (refine step_append_lies _ (by rfl) _ _ _ (by rfl) w.heap.size 28 i0 _ 1 24 Tryz.underlying34 hi hz0 hz1 hz2 rfl (by omega) _ _ vs (by rfl) ((ownsRow_ext (ownsRow_ext o1 (Ext.drew _)) hx3).alloc _) ⟨w3.heap.size, 0, none⟩ 1 1 [.slice A3 L.length c3] (by rfl) (by rfl) (World.news_of_block (cs := #[.slice A3 L.length c3]) (t := 28) (fr := (0, 0)) (Blk.new w3 w3.heap.size _ _ rfl)) (by simp [Value.oneCell']) (by omega) (by unfold maxLen; omega) (by omega) (by have := hx3.size; simp at this; simp; omega) (w3.heap.size + 1) (by simp) ?_; intro gg cap w4 hown4 hgrow hat hlt4; have hO := (ownsRow_ext (ownsRow_ext o1 (Ext.drew _)) hx3).alloc (.cells #[.slice A3 L.length c3] 28); have bX4 := Blk.apart ((bX.drew.ext hx3).alloc _) hO (by decide) hgrow; have bC4 := Blk.apart ((bC.drew.ext hx3).alloc _) hO (by decide) hgrow; have l0 := bX4.cell 0; have l1 := bX4.cell 2; have l2 := bC4.cell 0; simp only [List.getElem?_toArray, List.getElem?_cons_zero, List.getElem?_cons_succ] at l0 l1 l2))
      have hu3' : OwnInts wq.drew.heap.size w3 (.slice A3 L.length c3) (segNode L hh pq py) := by have := hu3; rwa [segNode_length] at this
      have R : OwnIntRows w.heap.size w4 (.slice (some ⟨gg, 0, none⟩) ((startsOf n (ps.take k)).length + 1) cap) (startsOf n (ps.take (k + 1))) := by
        rw [HP.out]
        have hO2 : ∀ i, (h : i < (startsOf n (ps.take k)).length) → ∃ u, vs[i]? = some u ∧ OwnInts w.heap.size wq.drew u (startsOf n (ps.take k))[i] := o2
        refine OwnIntRows.snoc (u := .slice A3 L.length c3) hO (fun i hi => ?_) o3 ((hu3'.ext (Ext.alloc _ _)).base (by simpa using hsz)) (rows_ne (w := wq.drew) (xss := startsOf n (ps.take k)) (by exact o1) rfl hO2 hu3') hown4 hgrow
        obtain ⟨u', e, hu'⟩ := o2 i hi
        exact ⟨u', e, ((hu'.ext (Ext.drew _)).ext hx3).ext (Ext.alloc _ _)⟩
      have hX4 : Ext w w4 := (((hX.trans (Ext.drew _)).trans hx3).trans (Ext.alloc _ _)).grown hgrow (fun b hb => (o1.lt b hb).1)
      have hup4 : OwnParts bz w4 (.slice (some ⟨gz, 0, none⟩) ps.length cz) ps := OwnParts.apart (((hup.ext (Ext.drew _)).ext hx3).ext (Ext.alloc _ _)) hO hgrow
      clear o1 o2 o3 hown4 hgrow hat l0 l1 l2 k0 k1 k2 x0 x1 x2 hO bX bC bX4 bC4 hup hu3 hu3' hui
      go_wp2
      go_roundw
      case rel => exact ⟨k + 1, by omega, by go_num, hX4, hup4, R⟩
      case measure => simp [intOf]; omega
    · have HK := Lib.hid (show ps.take k = ps from List.take_of_length_le (by omega))
      clear hsl
      go_wp2
      go_ret
      exact ⟨_, rfl, by rw [HZ.out]; have := ho; rw [HK.out] at this; rw [HK.out]; exact this, hX⟩
end Go.Proofs.YtacpchapgklcgaaGreatDoor
end
