/- Contracts of the small functions on numbers and rules. No condition.
Contracts of the laws' own helpers: sizes, copies, comparisons. No condition.
Contracts of the laws' copies of machines. No condition.
Contracts of the laws' copies of machines, continued. No condition.
Contracts of the laws' comparisons of lists, and of the marks that they lay and look for. The marks stay below 2 to the power of 62.
Contracts of the marks that the laws lay and look for. The marks stay below 2 to the power of 62.
Contracts of the marks that the laws lay and look for, in slices of slices and in machines. The marks stay below 2 to the power of 62.
Contracts of the marks that the laws look for in slices of slices, and lay in machines. The marks stay below 2 to the power of 62.
The arguments of the laws of this seat, opened: a machine, numbers. No condition. -/
import Derived.Test.YthhjbmlkncdigaaGreatDoorProg
import Derived.Test.YthhjbmlkncdigaaGreatDoorB01
import Derived.Lib.QuietBelow
import Derived.Laws.StructEq
section
namespace Go.Proofs.YthhjbmlkncdigaaGreatDoor
open Go Go.RowKit Go.Proofs
set_option maxHeartbeats 400000
def inB (n lo hi : Int) : Bool := decide (lo ≤ n) && decide (n ≤ hi)
theorem inB_true {n lo hi : Int} (h : lo ≤ n ∧ n ≤ hi) : inB n lo hi = true := by simp [inB, h.1, h.2]
theorem inB_iff {n lo hi : Int} : inB n lo hi = true ↔ lo ≤ n ∧ n ≤ hi := by simp [inB]
theorem inB_false1 {n lo hi : Int} (h : n < lo) : inB n lo hi = false := by simp [inB]; omega
theorem inB_false2 {n lo hi : Int} (h : hi < n) : inB n lo hi = false := by simp [inB]; omega
theorem within_c (n lo hi : Int) (w : World) : Calls Tryz.prog 54 #[.int .i64 n, .int .i64 lo, .int .i64 hi] w fun e w' => e = .returned (.bool (inB n lo hi)) ∧ w = w' := by
  rcases Int.lt_or_le n lo with h | h
  · have H := inB_false1 (hi := hi) h
    go_enter Tryz.func54, Tryz.ntmps54
    go_wp2
    go_ret
    exact ⟨by simp, rfl⟩
  · rcases Int.lt_or_le hi n with h2 | h2
    · have H := inB_false2 (lo := lo) h2
      go_enter Tryz.func54, Tryz.ntmps54
      go_wp2
      go_ret
      exact ⟨by simp [H, h2], rfl⟩
    · have H := inB_true ⟨h, h2⟩
      go_enter Tryz.func54, Tryz.ntmps54
      go_wp2
      go_ret
      exact ⟨by simp [H], rfl⟩
theorem l00In_c (n lo hi : Int) (w : World) : Calls Tryz.prog 75 #[.int .i64 n, .int .i64 lo, .int .i64 hi] w fun e w' => e = .returned (.bool (inB n lo hi)) ∧ w = w' := by
  rcases Int.lt_or_le n lo with h | h
  · have H := inB_false1 (hi := hi) h
    go_enter Tryz.func75, Tryz.ntmps75
    go_wp2
    go_ret
    exact ⟨by simp, rfl⟩
  · rcases Int.lt_or_le hi n with h2 | h2
    · have H := inB_false2 (lo := lo) h2
      go_enter Tryz.func75, Tryz.ntmps75
      go_wp2
      go_ret
      exact ⟨by simp [H, h2], rfl⟩
    · have H := inB_true ⟨h, h2⟩
      go_enter Tryz.func75, Tryz.ntmps75
      go_wp2
      go_ret
      exact ⟨by simp [H], rfl⟩

/-- A rule. -/
structure RuleD where
  w : Int
  m : Int
  n : Int
deriving DecidableEq
def RuleD.v (r : RuleD) : Value := .agg #[.int .i64 r.w, .int .i64 r.m, .int .i64 r.n]
def noR : RuleD := ⟨0, 0, -1⟩
theorem noRule_c (w : World) : Calls Tryz.prog 95 #[] w fun e w' => e = .returned (.agg #[.int .i64 0, .int .i64 0, .int .i64 (-1)]) ∧ Ext w w' := by
  go_enter Tryz.func95, Tryz.ntmps95
  go_wp2
  exact bodyPost_ret (v := .agg #[.int .i64 0, .int .i64 0, .int .i64 (-1)]) (by simp [results, Tryz.results95, go_sem]) rfl ⟨rfl, Ext.alloc _ _⟩
theorem l05None_c (w : World) : Calls Tryz.prog 82 #[] w fun e w' => e = .returned (.agg #[.int .i64 0, .int .i64 0, .int .i64 (-1)]) ∧ Ext w w' := by
  go_enter Tryz.func82, Tryz.ntmps82
  go_wp2
  exact bodyPost_ret (v := .agg #[.int .i64 0, .int .i64 0, .int .i64 (-1)]) (by simp [results, Tryz.results82, go_sem]) rfl ⟨rfl, Ext.alloc _ _⟩
def rEq (r s : RuleD) : Bool := decide (r = s)
theorem ruleGuard : Tryz.prog.eqGuardType Tryz.prog.depth 98 = false := by kernel_rfl
theorem ruleIs : Tryz.prog.underlying 98 = some (.struct (Tryz.prog.fieldsOf 98)) := by kernel_rfl
theorem ruleStood : Tryz.prog.stoodInHeld 98 = false := by kernel_rfl
theorem ruleEqual (w : World) (a b c x y z : Int) : (Op.equalIn 10000 98 (.agg #[.int .i64 a, .int .i64 b, .int .i64 c]) (.agg #[.int .i64 x, .int .i64 y, .int .i64 z])).run Tryz.prog w = .ok (decide ((⟨a, b, c⟩ : RuleD) = ⟨x, y, z⟩)) w := by
  have e : (Tryz.prog.fieldsOf 98).toList.map (fun f => (f.name, f.type, f.offset)) = [("Write", 2, 0), ("Move", 2, 1), ("Next", 2, 2)] := by kernel_rfl
  rw [run_equalIn_agg w 9999 _ _ _ ruleIs ruleStood]
  match h : (Tryz.prog.fieldsOf 98).toList with
  | [f0, f1, f2] =>
    rw [h] at e
    simp only [List.map_cons, List.map_nil, List.cons.injEq, Prod.mk.injEq, and_true] at e
    obtain ⟨⟨n0, t0, o0⟩, ⟨n1, t1, o1⟩, ⟨n2, t2, o2⟩⟩ := e
    by_cases h0 : a = x <;> by_cases h1 : b = y <;> by_cases h2 : c = z <;>
      simp [Op.eqFields, n0, t0, o0, n1, t1, o1, n2, t2, o2, go_sem, h0, h1, h2]
  | [] => rw [h] at e; simp at e
  | [_] => rw [h] at e; simp at e
  | [_, _] => rw [h] at e; simp at e
  | _ :: _ :: _ :: _ :: _ => rw [h] at e; simp at e
theorem ruleNeq_run (w : World) (a b c x y z : Int) : (binOp .neq 98 (.agg #[.int .i64 a, .int .i64 b, .int .i64 c]) (.agg #[.int .i64 x, .int .i64 y, .int .i64 z])).run Tryz.prog w = .ok (.bool (!rEq ⟨a, b, c⟩ ⟨x, y, z⟩)) w := by
  rw [run_neq_struct, ruleEqual]; rfl
theorem ruleEql_run (w : World) (a b c x y z : Int) : (binOp .eql 98 (.agg #[.int .i64 a, .int .i64 b, .int .i64 c]) (.agg #[.int .i64 x, .int .i64 y, .int .i64 z])).run Tryz.prog w = .ok (.bool (rEq ⟨a, b, c⟩ ⟨x, y, z⟩)) w := by
  rw [run_eql_struct, ruleEqual]; rfl
attribute [go_sem] ruleGuard
def isR (r : RuleD) : Bool := !(rEq r noR)
theorem isRule_c (a b c : Int) (w : World) : Calls Tryz.prog 97 #[.agg #[.int .i64 a, .int .i64 b, .int .i64 c]] w fun e w' => e = .returned (.bool (isR ⟨a, b, c⟩)) ∧ Ext w w' := by
  go_enter Tryz.func97, Tryz.ntmps97
  go_wp2
  obtain ⟨w1, bk, e1, e2, hx, _, _, c0, c1, c2⟩ := box3 w (.int .i64 a) (.int .i64 b) (.int .i64 c) 98
  rw [e1, e2]
  clear e1 e2
  have rn := ruleNeq_run
  have d0 := cellR c0
  have d1 := cellR c1
  have d2 := cellR c2
  refine wp_region_ext (by kernel_rfl) (by kernel_rfl) ?_
  repeat (go_big_quiet_step ((go_at_call 95; exact Calls.extR (noRule_c _))))
  refine wpQuiet_nil ?_
  intro w2 hx2
  go_wp2
  go_ret
  exact ⟨by simp [isR, noR], hx.trans hx2⟩
theorem eqRule_c (a b c x y z : Int) (w : World) : Calls Tryz.prog 74 #[.agg #[.int .i64 a, .int .i64 b, .int .i64 c], .agg #[.int .i64 x, .int .i64 y, .int .i64 z]] w fun e w' => e = .returned (.bool (rEq ⟨a, b, c⟩ ⟨x, y, z⟩)) ∧ Ext w w' := by
  go_enter Tryz.func74, Tryz.ntmps74
  go_wp2
  all_goals (go_ret; refine ⟨?_, (Ext.alloc _ _).trans (Ext.alloc _ _)⟩; simp_all [rEq])
end Go.Proofs.YthhjbmlkncdigaaGreatDoor
end
section
namespace Go.Proofs.YthhjbmlkncdigaaGreatDoor
open Go Go.RowKit Go.Proofs
set_option maxHeartbeats 400000
def rvs (rs : List RuleD) : List Value := rs.flatMap fun r => [.int .i64 r.w, .int .i64 r.m, .int .i64 r.n]
theorem rvs_get (rs : List RuleD) (i : Nat) (h : i < rs.length) : (rvs rs)[i * 3]? = some (.int .i64 rs[i].w) ∧ (rvs rs)[i * 3 + 1]? = some (.int .i64 rs[i].m) ∧ (rvs rs)[i * 3 + 2]? = some (.int .i64 rs[i].n) := by
  induction rs generalizing i with
  | nil => simp at h
  | cons r rs ih =>
    cases i with
    | zero => simp [rvs]
    | succ i =>
      have := ih i (by simpa using h)
      simp only [rvs, List.flatMap_cons, List.getElem_cons_succ] at *
      have e : (i + 1) * 3 = i * 3 + 3 := by omega
      have e1 : i * 3 + 3 + 1 = i * 3 + 1 + 3 := by omega
      have e2 : i * 3 + 3 + 2 = i * 3 + 2 + 3 := by omega
      rw [e, e1, e2]
      simpa using this
/-- A slice of rules. -/
def Rules (w : World) (v : Value) (rs : List RuleD) : Prop := Row w 3 v rs.length (rvs rs)
theorem Rules.ext {w w' : World} {v : Value} {rs : List RuleD} (h : Rules w v rs) (he : Ext w w') : Rules w' v rs := Row.ext h he
theorem Rules.form {w : World} {v : Value} {rs : List RuleD} (h : Rules w v rs) : ∃ A c, v = .slice A rs.length c ∧ rs.length ≤ c ∧ c ≤ 9223372036854775807 := by
  obtain ⟨A, c, hv, h1, h2, _⟩ := Row.form h
  exact ⟨A, c, hv, h1, h2⟩
theorem Rules.at {w : World} {c : Nat} {A : Option Addr} {rs : List RuleD} (h : Rules w (.slice A rs.length c) rs) {k : Nat} (hk : k < rs.length) :
    ∃ b off, A = some ⟨b, off, none⟩ ∧ ∀ j, (hj : j < rs.length) → w.cell? ⟨b, off + j * 3, none⟩ = some (.int .i64 rs[j].w) ∧ w.cell? ⟨b, off + j * 3 + 1, none⟩ = some (.int .i64 rs[j].m) ∧ w.cell? ⟨b, off + j * 3 + 2, none⟩ = some (.int .i64 rs[j].n) := by
  obtain ⟨b, off, hA, hc⟩ := Row.at h hk
  refine ⟨b, off, hA, fun j hj => ?_⟩
  obtain ⟨e0, e1, e2⟩ := rvs_get rs j hj
  refine ⟨by rw [hc (j * 3) (by omega), e0], ?_, ?_⟩
  · rw [Nat.add_assoc, hc (j * 3 + 1) (by omega), e1]
  · rw [Nat.add_assoc, hc (j * 3 + 2) (by omega), e2]

def takeEq {α : Type} (xs ys : List α) (k : Nat) : Prop := xs.take k = ys.take k
theorem takeEq_step {α : Type} {xs ys : List α} {k : Nat} (h : takeEq xs ys k) (hx : k < xs.length) (hy : k < ys.length) (e : xs[k] = ys[k]) : takeEq xs ys (k + 1) := by
  unfold takeEq at *
  rw [List.take_succ_eq_append_getElem hx, List.take_succ_eq_append_getElem hy, h, e]
theorem eq_of_takeEq {α : Type} {xs ys : List α} {k : Nat} (h : takeEq xs ys k) (hx : xs.length ≤ k) (hy : ys.length ≤ k) : xs = ys := by
  unfold takeEq at h
  rwa [List.take_of_length_le hx, List.take_of_length_le hy] at h
theorem ne_of_get {α : Type} {xs ys : List α} {k : Nat} (hx : k < xs.length) (hy : k < ys.length) (e : ¬ xs[k] = ys[k]) : ¬ xs = ys := by
  rintro rfl; exact e rfl

theorem eqRuleS_c (w : World) (u v : Value) (xs ys : List RuleD) (ha : Rules w u xs) (hb : Rules w v ys) :
    Calls Tryz.prog 37 #[u, v] w fun e w' => e = .returned (.bool (decide (xs = ys))) ∧ Ext w w' := by
  obtain ⟨A, ca, rfl, h1, h1'⟩ := ha.form
  obtain ⟨B, cb, rfl, h2, h2'⟩ := hb.form
  by_cases hl : xs.length = ys.length
  · have hl1 : ((xs.length : Int) != (ys.length : Int)) = false := by simp [hl]
    have hlle : xs.length ≤ ys.length := by omega
    have hlge : ys.length ≤ xs.length := by omega
    clear hl
    go_enter Tryz.func37, Tryz.ntmps37
    go_wp2
    go_loopw [5] (fun i wr => ∃ k : Nat, k ≤ xs.length ∧ i = .int .i64 k ∧ Ext w wr ∧ takeEq xs ys k) (fun i _ => xs.length - (intOf i).toNat)
    case atStart => exact ⟨0, Nat.zero_le _, rfl, Ext.refl _, rfl⟩
    case round =>
      obtain ⟨k, hk, rfl, hx, ht⟩ := hrel
      by_cases hlt : k < xs.length
      · obtain ⟨b, off, rfl, hc⟩ := ha.at hlt
        obtain ⟨b', off', rfl, hc'⟩ := hb.at (k := k) (by omega)
        obtain ⟨c0, c1, c2⟩ := hc k hlt
        obtain ⟨c0', c1', c2'⟩ := hc' k (by omega)
        have d0 := cellR (hx.cell c0)
        have d1 := cellR (hx.cell c1)
        have d2 := cellR (hx.cell c2)
        have d0' := cellR (hx.cell c0')
        have d1' := cellR (hx.cell c1')
        have d2' := cellR (hx.cell c2')
        clear c0 c1 c2 c0' c1' c2' hc hc' ha hb
        have heb : ∀ q, rEq xs[k] ys[k] = q → rEq ⟨xs[k].w, xs[k].m, xs[k].n⟩ ⟨ys[k].w, ys[k].m, ys[k].n⟩ = q := fun _ h => h
        by_cases he : xs[k] = ys[k]
        · have H := heb true (by simp [rEq, he])
          have he' := Lib.hid he
          clear heb he
          go_wp2
          refine wp_region_ext (by kernel_rfl) (by kernel_rfl) ?_
          repeat (go_big_quiet_step ((go_at_call 74; exact Calls.extR (eqRule_c _ _ _ _ _ _ _))))
          refine wpQuiet_nil ?_
          intro w2 hx2
          go_wp2
          go_roundw
          case rel => exact ⟨k + 1, by omega, by go_num, hx.trans hx2, takeEq_step ht hlt (by omega) he'.out⟩
          case measure => simp [intOf]; omega
        · have H := heb false (by simp [rEq, he])
          clear heb
          go_wp2
          refine wp_region_ext (by kernel_rfl) (by kernel_rfl) ?_
          repeat (go_big_quiet_step ((go_at_call 74; exact Calls.extR (eqRule_c _ _ _ _ _ _ _))))
          refine wpQuiet_nil ?_
          intro w2 hx2
          go_wp2
          go_ret
          exact ⟨by simp [ne_of_get hlt (by omega) he], hx.trans hx2⟩
      · go_wp2
        go_ret
        exact ⟨by simp [eq_of_takeEq ht (by omega) (by omega)], hx⟩
  · have hl1 : ((xs.length : Int) != (ys.length : Int)) = true := by simp; omega
    go_enter Tryz.func37, Tryz.ntmps37
    go_wp2
    go_ret
    exact ⟨by simp [show ¬ xs = ys from fun h => hl (by rw [h])], Ext.refl _⟩
end Go.Proofs.YthhjbmlkncdigaaGreatDoor
namespace Go.Proofs.YthhjbmlkncdigaaGreatDoor
open Go Go.RowKit Go.Proofs
set_option maxHeartbeats 400000
theorem toRule_c (a b c : Int) (w : World) : Calls Tryz.prog 53 #[.agg #[.int .i64 a, .int .i64 b, .int .i64 c]] w fun e w' => e = .returned (.agg #[.int .i64 a, .int .i64 b, .int .i64 c]) ∧ Ext w w' := by
  go_enter Tryz.func53, Tryz.ntmps53
  go_wp2
  refine bodyPost_ret (v := .agg #[.int .i64 a, .int .i64 b, .int .i64 c]) (by simp [results, Tryz.results53, go_sem]) rfl ⟨rfl, ?_⟩
  exact ((Ext.alloc _ _).trans (Ext.alloc _ _)).trans (Ext.alloc _ _)
theorem szRuleS_c (v : Value) (n : Nat) (xs : List Value) (left : Int) (w : World) (h : Row w 3 v n xs) (h0 : 0 ≤ left) (h1 : left ≤ 1048576) :
    Calls Tryz.prog 17 #[v, .int .i64 left] w fun e w' => e = .returned (.int .i64 (if left < n then -1 else left - n)) ∧ w = w' := by
  obtain ⟨A, c, rfl, h2, h3, _⟩ := h.form
  by_cases hl : left < n
  · go_enter Tryz.func17, Tryz.ntmps17
    go_wp2
    go_ret
    exact ⟨by simp, rfl⟩
  · go_enter Tryz.func17, Tryz.ntmps17
    go_wp2
    go_ret
    exact ⟨by simp, rfl⟩
/-- A machine. -/
structure MachD where
  sy : Int
  st : Int
  rules : List RuleD
deriving DecidableEq
def Mach (w : World) (v : Value) (m : MachD) : Prop := ∃ rv, v = .agg #[.int .i64 m.sy, .int .i64 m.st, rv] ∧ Rules w rv m.rules
theorem Mach.ext {w w' : World} {v : Value} {m : MachD} (h : Mach w v m) (he : Ext w w') : Mach w' v m := by
  obtain ⟨rv, hv, hr⟩ := h; exact ⟨rv, hv, hr.ext he⟩
theorem szMachine_c (v : Value) (m : MachD) (left : Int) (w : World) (h : Mach w v m) (h0 : 0 ≤ left) (h1 : left ≤ 1048576) :
    Calls Tryz.prog 4 #[v, .int .i64 left] w fun e w' => e = .returned (.int .i64 (if left < m.rules.length then -1 else left - m.rules.length)) ∧ Ext w w' := by
  obtain ⟨rv, rfl, hr⟩ := h
  go_enter Tryz.func4, Tryz.ntmps4
  go_wp2_with fail
  have hx := Ext.alloc w (.cells #[.int .i64 m.sy, .int .i64 m.st, rv] 24)
  by_cases hl : left < m.rules.length
  · refine (szRuleS_c _ _ _ _ _ (Row.ext hr hx) h0 h1).mono ?_
    rintro e w' ⟨rfl, rfl⟩
    rw [if_pos hl]
    go_wp2
    go_ret
    exact ⟨by simp, hx⟩
  · refine (szRuleS_c _ _ _ _ _ (Row.ext hr hx) h0 h1).mono ?_
    rintro e w' ⟨rfl, rfl⟩
    rw [if_neg hl]
    go_wp2
    go_ret
    exact ⟨by simp, hx⟩
end Go.Proofs.YthhjbmlkncdigaaGreatDoor
namespace Go.Proofs.YthhjbmlkncdigaaGreatDoor
open Go Go.RowKit Go.Proofs
set_option maxHeartbeats 400000
theorem ruleInfo : (Tryz.prog.info? 98).map (fun i => (i.zero, i.size, i.bytes)) = some (some (.agg #[.int .i64 0, .int .i64 0, .int .i64 0]), 3, 24) := by kernel_rfl
/-- The first k rules stand in the cells. -/
def filled (rs : List RuleD) (k : Nat) (xs : List Value) : Prop := xs.take (k * 3) = rvs (rs.take k)
theorem filled_zero (rs : List RuleD) (xs : List Value) : filled rs 0 xs := by simp [filled, rvs]
theorem rvs_append (a b : List RuleD) : rvs (a ++ b) = rvs a ++ rvs b := by simp [rvs]
theorem take3 {α : Type} (xs : List α) (k : Nat) (a b c : α) (h : k * 3 + 2 < xs.length) :
    (((xs.set (k * 3) a).set (k * 3 + 1) b).set (k * 3 + 2) c).take ((k + 1) * 3) = xs.take (k * 3) ++ [a, b, c] := by
  apply List.ext_getElem?
  intro i
  rw [List.getElem?_take]
  by_cases h1 : i < k * 3
  · rw [if_pos (by omega), List.getElem?_append_left (by simp; omega), List.getElem?_take, if_pos h1, List.getElem?_set_ne (by omega), List.getElem?_set_ne (by omega), List.getElem?_set_ne (by omega)]
  · rw [List.getElem?_append_right (by simp; omega)]
    have hl : (xs.take (k * 3)).length = k * 3 := by simp; omega
    rw [hl]
    by_cases e0 : i = k * 3
    · subst e0
      rw [if_pos (by omega), List.getElem?_set_ne (by omega), List.getElem?_set_ne (by omega), List.getElem?_set_self (by omega)]
      simp
    · by_cases e1 : i = k * 3 + 1
      · subst e1
        rw [if_pos (by omega), List.getElem?_set_ne (by omega), List.getElem?_set_self (by simp; omega)]
        simp
      · by_cases e2 : i = k * 3 + 2
        · subst e2
          rw [if_pos (by omega), List.getElem?_set_self (by simp; omega)]
          simp
        · rw [if_neg (by omega), List.getElem?_eq_none (by simp; omega)]
theorem filled_step {rs : List RuleD} {k : Nat} {xs : List Value} (h : filled rs k xs) (hk : k < rs.length) (hx : xs.length = rs.length * 3) :
    filled rs (k + 1) (((xs.set (k * 3) (.int .i64 rs[k].w)).set (k * 3 + 1) (.int .i64 rs[k].m)).set (k * 3 + 2) (.int .i64 rs[k].n)) := by
  unfold filled at *
  rw [take3 xs k _ _ _ (by omega), h, List.take_succ_eq_append_getElem hk, rvs_append]
  rfl
theorem filled_end {rs : List RuleD} {k : Nat} {xs : List Value} (h : filled rs k xs) (hk : rs.length ≤ k) (hx : xs.length = rs.length * 3) : xs = rvs rs := by
  unfold filled at h
  rwa [List.take_of_length_le (by omega), List.take_of_length_le hk] at h
/-- A slice of rules that lies in memory of the call's own. -/
def OwnRules (base : Nat) (w : World) (v : Value) (rs : List RuleD) : Prop := w.ownsRow base 98 3 v rs.length (rvs rs)
theorem OwnRules.rules {base : Nat} {w : World} {v : Value} {rs : List RuleD} (h : OwnRules base w v rs) : Rules w v rs := ownsRow_row h
theorem OwnRules.ext {base : Nat} {w w' : World} {v : Value} {rs : List RuleD} (h : OwnRules base w v rs) (he : Ext w w') : OwnRules base w' v rs := ownsRow_ext h he

theorem toRuleS_c (v : Value) (rs : List RuleD) (w : World) (h : Rules w v rs) (hn : rs.length ≤ 1048576) :
    Calls Tryz.prog 26 #[v] w fun e w' => ∃ u, e = .returned u ∧ OwnRules w.heap.size w' u rs ∧ Ext w w' := by
  obtain ⟨A, c, rfl, h2, h3⟩ := h.form
  obtain ⟨i0, hi, hz0, hz1, hz2⟩ := info_parts ruleInfo
  go_enter Tryz.func26, Tryz.ntmps26
  go_wp2_with (at_make; refine wpList_make_full _ rfl _ _ 33 rfl w.heap.size 98 i0 _ 3 Tryz.underlying33 hi hz0 hz1 .i64 .i64 _ _ rs.length rfl rfl rfl rfl ?c1 ?c2 ?c3 ?_)
  case c1 => rw [hz2]; omega
  case c2 => unfold maxLen; omega
  case c3 => exact Nat.le_refl _
  intro w1 hown hgr
  have hx1 : Ext w w1 := (Ext.refl _).grown hgr (by simp)
  obtain ⟨cs, hown⟩ : ∃ cs, w1.ownsRow w.heap.size 98 3 (.slice (some ⟨w.heap.size, 0, none⟩) rs.length rs.length) rs.length cs := ⟨_, hown⟩
  clear hgr hi hz0 hz1 hz2
  have hsz : w.heap.size < w1.heap.size := (hown.lt _ rfl).2
  generalize hg : w.heap.size = g at *
  have HG := Lib.hid hg
  clear hg
  go_wp2
  go_loopw [4] (fun i wr => ∃ k : Nat, k ≤ rs.length ∧ i = .int .i64 k ∧ Ext w wr ∧ ∃ xs, wr.ownsRow g 98 3 (.slice (some ⟨g, 0, none⟩) rs.length rs.length) rs.length xs ∧ filled rs k xs) (fun i _ => rs.length - (intOf i).toNat)
  case atStart => exact ⟨0, Nat.zero_le _, rfl, hx1, cs, hown, filled_zero _ _⟩
  case round =>
    obtain ⟨k, hk, rfl, hx, xs, ho, hf⟩ := hrel
    by_cases hlt : k < rs.length
    · obtain ⟨b, off, rfl, hc⟩ := h.at hlt
      obtain ⟨c0, c1, c2⟩ := hc k hlt
      have d0 := hx.cell c0
      have d1 := hx.cell c1
      have d2 := hx.cell c2
      clear c0 c1 c2 hc
      go_wp2_with fail
      refine (toRule_c _ _ _ _).mono ?_
      rintro e w2 ⟨rfl, hx2⟩
      have ho2 := ownsRow_ext ho hx2
      have hl := ho.1
      have q0 := ho2.cellAt (k * 3) (by omega)
      have q1 := ho2.cellAt (k * 3 + 1) (by omega)
      have q2 := ho2.cellAt (k * 3 + 2) (by omega)
      rw [List.getElem?_eq_getElem (by omega)] at q0 q1 q2
      have f0 := ho2.frozenAt (k * 3)
      have f1 := ho2.frozenAt (k * 3 + 1)
      have f2 := ho2.frozenAt (k * 3 + 2)
      clear d0 d1 d2
      go_wp2
      have hb : w.heap.size ≤ g := Nat.le_of_eq HG.out
      go_roundw
      case rel => exact ⟨k + 1, by omega, by go_num, (((hx.trans hx2).setCell hb _).setCell hb _).setCell hb _, _, (((ho2.stored (k * 3) _).1.stored (k * 3 + 1) _).1.stored (k * 3 + 2) _).1, filled_step hf hlt hl⟩
      case measure => simp [intOf]; omega
    · go_wp2
      go_ret
      refine ⟨_, rfl, ?_, hx⟩
      have hl := ho.1
      rw [HG.out, OwnRules, ← filled_end hf (by omega) hl]
      exact ho
theorem toMachine_c (v : Value) (m : MachD) (w : World) (h : Mach w v m) (hn : m.rules.length ≤ 1048576) :
    Calls Tryz.prog 7 #[v] w fun e w' => ∃ rv, e = .returned (.agg #[.int .i64 m.sy, .int .i64 m.st, rv]) ∧ OwnRules w.heap.size w' rv m.rules ∧ Ext w w' := by
  obtain ⟨rv, rfl, hr⟩ := h
  go_enter Tryz.func7, Tryz.ntmps7
  go_wp2_with fail
  refine (toRuleS_c _ _ _ (Rules.ext hr (((Ext.alloc _ _).trans (Ext.alloc _ _)).trans (Ext.alloc _ _))) hn).mono ?_
  rintro e w1 ⟨u, rfl, ho, hx1⟩
  have hX : Ext w w1 := (((Ext.alloc _ _).trans (Ext.alloc _ _)).trans (Ext.alloc _ _)).trans hx1
  have b1 := (((Blk.new _ (w.heap.size + 1) _ _ (by simp)).alloc _).ext hx1)
  have b2 := ((Blk.new _ (w.heap.size + 1 + 1) _ _ (by simp)).ext hx1)
  simp at ho
  obtain ⟨A', c', rfl, _, _⟩ := ho.rules.form
  clear hx1
  generalize hg : w.heap.size = g at *
  have HG := Lib.hid hg
  clear hg hr
  have c1 := b1.cell
  have f1 := b1.frozen
  have c2 := b2.cell
  have f2 := b2.frozen
  go_wp2
  refine bodyPost_ret (v := .agg #[.int .i64 m.sy, .int .i64 m.st, .slice A' m.rules.length c']) (by simp [results, Tryz.results7, go_sem, c1]) rfl ⟨_, rfl, ?_, ?_⟩
  · have hk : ∀ k, (Value.slice A' m.rules.length c').ownBlock = some k → g + 1 + 1 + 1 ≤ k := fun k hk => (ho.lt k hk).1
    have h1 : ∀ k, (Value.slice A' m.rules.length c').ownBlock = some k → k ≠ g + 1 := fun k h => by have := hk k h; omega
    have h2 : ∀ k, (Value.slice A' m.rules.length c').ownBlock = some k → k ≠ g + 1 + 1 := fun k h => by have := hk k h; omega
    exact ownsRow_base (ownsRow_far (ownsRow_far (ownsRow_far (ownsRow_far ho h2 _) h1 _) h1 _) h1 _) (by have := HG.out; omega)
  · have hb : w.heap.size ≤ g + 1 := by have := HG.out; omega
    exact (((hX.setCell (by have := HG.out; simp; omega) _).setCell hb _).setCell hb _).setCell hb _
theorem eqMachine_c (w : World) (u v : Value) (a b : MachD) (ha : Mach w u a) (hb : Mach w v b) :
    Calls Tryz.prog 11 #[u, v] w fun e w' => e = .returned (.bool (decide (a = b))) ∧ Ext w w' := by
  obtain ⟨ra, rfl, ha⟩ := ha
  obtain ⟨rb, rfl, hb⟩ := hb
  have hx0 := (Ext.alloc w (.cells #[.int .i64 a.sy, .int .i64 a.st, ra] 35)).trans (Ext.alloc _ (.cells #[.int .i64 b.sy, .int .i64 b.st, rb] 35))
  obtain ⟨asy, ast, ars⟩ := a
  obtain ⟨bsy, bst, brs⟩ := b
  by_cases h1 : asy = bsy
  · by_cases h2 : ast = bst
    · subst h1 h2
      go_enter Tryz.func11, Tryz.ntmps11
      go_wp2_with fail
      refine (eqRuleS_c _ _ _ _ _ (Rules.ext ha hx0) (Rules.ext hb hx0)).mono ?_
      rintro e w1 ⟨rfl, hx1⟩
      by_cases h3 : ars = brs
      · have H : decide (ars = brs) = true := by simp [h3]
        rw [H]
        go_wp2
        go_ret
        exact ⟨by simp [h3], hx0.trans hx1⟩
      · have H : decide (ars = brs) = false := by simp [h3]
        rw [H]
        go_wp2
        go_ret
        exact ⟨by simp [h3], hx0.trans hx1⟩
    · subst h1
      have h2' : (ast != bst) = true := by simp [h2]
      go_enter Tryz.func11, Tryz.ntmps11
      go_wp2
      go_ret
      exact ⟨by simp, hx0⟩
  · have h1' : (asy != bsy) = true := by simp [h1]
    go_enter Tryz.func11, Tryz.ntmps11
    go_wp2
    go_ret
    exact ⟨by simp, hx0⟩
end Go.Proofs.YthhjbmlkncdigaaGreatDoor
namespace Go.Proofs.YthhjbmlkncdigaaGreatDoor
open Go Go.RowKit Go.Proofs
set_option maxHeartbeats 400000
def lEq {α : Type} [DecidableEq α] (xs ys : List α) : Bool := decide (xs = ys)
theorem lEq_true {α : Type} [DecidableEq α] {xs ys : List α} (h : xs = ys) : lEq xs ys = true := by simp [lEq, h]
theorem lEq_false {α : Type} [DecidableEq α] {xs ys : List α} (h : ¬ xs = ys) : lEq xs ys = false := by simp [lEq, h]
theorem eqInt64S_c (w : World) (u v : Value) (xs ys : List Int) (ha : Ints w u xs) (hb : Ints w v ys) :
    Calls Tryz.prog 38 #[u, v] w fun e w' => e = .returned (.bool (lEq xs ys)) ∧ Ext w w' := by
  obtain ⟨A, ca, rfl, h1, h1'⟩ := ha.form
  obtain ⟨B, cb, rfl, h2, h2'⟩ := hb.form
  by_cases hl : xs.length = ys.length
  · have hl1 : ((xs.length : Int) != (ys.length : Int)) = false := by simp [hl]
    have hlle : xs.length ≤ ys.length := by omega
    have hlge : ys.length ≤ xs.length := by omega
    clear hl
    go_enter Tryz.func38, Tryz.ntmps38
    go_wp2
    go_loopw [5] (fun i wr => ∃ k : Nat, k ≤ xs.length ∧ i = .int .i64 k ∧ Ext w wr ∧ takeEq xs ys k) (fun i _ => xs.length - (intOf i).toNat)
    case atStart => exact ⟨0, Nat.zero_le _, rfl, Ext.refl _, rfl⟩
    case round =>
      obtain ⟨k, hk, rfl, hx, ht⟩ := hrel
      by_cases hlt : k < xs.length
      · obtain ⟨b, off, rfl, hc⟩ := ha.at hlt
        obtain ⟨b', off', rfl, hc'⟩ := hb.at (k := k) (by omega)
        have c0 := hx.cell (hc k hlt)
        have c0' := hx.cell (hc' k (by omega))
        clear hc hc' ha hb
        by_cases he : xs[k] = ys[k]
        · have H : (xs[k] != ys[k]) = false := by simp [he]
          have he' := Lib.hid he
          clear he
          go_wp2
          go_quiet (fail)
          go_wp2
          go_roundw
          case rel => exact ⟨k + 1, by omega, by go_num, hx.trans (Ext.drewN _ _), takeEq_step ht hlt (by omega) he'.out⟩
          case measure => simp [intOf]; omega
        · have H : (xs[k] != ys[k]) = true := by simp [he]
          go_wp2
          go_quiet (fail)
          go_wp2
          go_ret
          exact ⟨by simp [lEq_false (ne_of_get hlt (by omega) he)], hx.trans (Ext.drewN _ _)⟩
      · go_wp2
        go_ret
        exact ⟨by simp [lEq_true (eq_of_takeEq ht (by omega) (by omega))], hx⟩
  · have hl1 : ((xs.length : Int) != (ys.length : Int)) = true := by simp; omega
    go_enter Tryz.func38, Tryz.ntmps38
    go_wp2
    go_ret
    exact ⟨by simp [lEq_false (show ¬ xs = ys from fun h => hl (by rw [h]))], Ext.refl _⟩
end Go.Proofs.YthhjbmlkncdigaaGreatDoor
namespace Go.Proofs.YthhjbmlkncdigaaGreatDoor
open Go Go.RowKit Go.Proofs
set_option maxHeartbeats 400000
/-- n numbers from k on. -/
def nums (k : Int) (n : Nat) : List Int := (List.range n).map fun i => k + (i : Nat)
@[simp] theorem nums_length (k : Int) (n : Nat) : (nums k n).length = n := by simp [nums]
/-- A slice of numbers in memory of the call's own. -/
def OwnInts (base : Nat) (w : World) (v : Value) (zs : List Int) : Prop := w.ownsRow base 2 1 v zs.length (ivs zs)
theorem OwnInts.ints {base : Nat} {w : World} {v : Value} {zs : List Int} (h : OwnInts base w v zs) : Ints w v zs := ownsRow_row h
theorem OwnInts.ext {base : Nat} {w w' : World} {v : Value} {zs : List Int} (h : OwnInts base w v zs) (he : Ext w w') : OwnInts base w' v zs := ownsRow_ext h he
/-- The first i cells hold the numbers from k on. -/
def marked (k : Int) (i : Nat) (xs : List Value) : Prop := xs.take i = ivs (nums k i)
theorem ivs_append (a b : List Int) : ivs (a ++ b) = ivs a ++ ivs b := by simp [ivs]
theorem nums_succ (k : Int) (i : Nat) : nums k (i + 1) = nums k i ++ [k + i] := by simp [nums, List.range_succ]
theorem marked_zero (k : Int) (xs : List Value) : marked k 0 xs := by simp [marked, nums, ivs]
theorem take_set_snoc {α : Type} (xs : List α) (i : Nat) (a : α) (h : i < xs.length) : (xs.set i a).take (i + 1) = xs.take i ++ [a] := by
  apply List.ext_getElem?
  intro j
  rw [List.getElem?_take]
  by_cases h1 : j < i
  · rw [if_pos (by omega), List.getElem?_append_left (by simp; omega), List.getElem?_take, if_pos h1, List.getElem?_set_ne (by omega)]
  · have hl : (xs.take i).length = i := by simp; omega
    rw [List.getElem?_append_right (by omega), hl]
    by_cases e : j = i
    · subst e; rw [if_pos (by omega), List.getElem?_set_self (by omega)]; simp
    · rw [if_neg (by omega), List.getElem?_eq_none (by simp; omega)]
theorem marked_step {k : Int} {i : Nat} {xs : List Value} (h : marked k i xs) (hi : i < xs.length) : marked k (i + 1) (xs.set i (.int .i64 (k + i))) := by
  unfold marked at *
  rw [take_set_snoc _ _ _ hi, h, nums_succ, ivs_append]; rfl
theorem marked_end {k : Int} {i : Nat} {xs : List Value} (h : marked k i xs) (hi : xs.length = i) : xs = ivs (nums k i) := by
  unfold marked at h
  rwa [List.take_of_length_le (by omega)] at h
theorem grownBy_trans {a b c : World} {row : Option Nat} (h : a.grownBy b row) (k : b.grownBy c row) : a.grownBy c row :=
  ⟨k.os.trans h.os, k.tape.trans h.tape, k.output.trans h.output, Nat.le_trans h.size k.size, fun i hi hne => (k.block i (Nat.lt_of_lt_of_le hi h.size) hne).trans (h.block i hi hne)⟩
theorem markInt64S_c (base : Nat) (v : Value) (zs : List Int) (k : Int) (w : World) (h : OwnInts base w v zs) (h0 : 0 ≤ k) (h1 : k + zs.length ≤ 4611686018427387904) :
    Calls Tryz.prog 40 #[v, .int .i64 k] w fun e w' => e = .returned (.int .i64 (k + zs.length)) ∧ OwnInts base w' v (nums k zs.length) ∧ w.grownBy w' v.ownBlock := by
  obtain ⟨A, c, rfl, h2, h2'⟩ := h.ints.form
  go_enter Tryz.func40, Tryz.ntmps40
  go_wp2
  go_loopw [1, 5] (fun q i wr => ∃ j : Nat, j ≤ zs.length ∧ i = .int .i64 j ∧ q = .int .i64 (k + j) ∧ w.grownBy wr (Value.slice A zs.length c).ownBlock ∧ ∃ xs, wr.ownsRow base 2 1 (.slice A zs.length c) zs.length xs ∧ marked k j xs) (fun _ i _ => zs.length - (intOf i).toNat)
  case atStart => exact ⟨0, Nat.zero_le _, rfl, by simp, World.grownBy.refl _ _, _, h, marked_zero _ _⟩
  case round =>
    obtain ⟨j, hj, rfl, rfl, hg, xs, ho, hm⟩ := hrel
    have hl := ho.1
    by_cases hlt : j < zs.length
    · obtain ⟨g, rfl, hb, hgl⟩ := own_at ho (by omega)
      have q0 := ho.cellAt j (by omega)
      have HL := Lib.hid hl
      have hl' : j < xs.length := by omega
      clear hl
      rw [List.getElem?_eq_getElem hl'] at q0
      have f0 := ho.frozenAt j
      go_wp2
      obtain ⟨s1, s2⟩ := ho.stored j (.int .i64 (k + j))
      go_roundw
      case rel => exact ⟨j + 1, by omega, by go_num, by simp; omega, grownBy_trans hg s2, _, s1, marked_step hm hl'⟩
      case measure => simp [intOf]; omega
    · have hje : j = zs.length := by omega
      subst hje
      go_wp2
      go_ret
      refine ⟨rfl, ?_, hg⟩
      have e := marked_end hm (by omega)
      subst e
      show wr.ownsRow base 2 1 _ (nums k zs.length).length _
      rw [nums_length]
      exact ho
end Go.Proofs.YthhjbmlkncdigaaGreatDoor
namespace Go.Proofs.YthhjbmlkncdigaaGreatDoor
open Go Go.RowKit Go.Proofs
set_option maxHeartbeats 400000
/-- A slice of slices of numbers, all in memory of the call's own, no two of them in one block. -/
def OwnIntRows (base : Nat) (w : World) (v : Value) (xss : List (List Int)) : Prop :=
  ∃ vs : List Value, w.ownsRow base 25 1 v xss.length vs ∧ (∀ i, (h : i < xss.length) → ∃ u, vs[i]? = some u ∧ OwnInts base w u xss[i]) ∧
    ∀ (i j : Nat) (u u' : Value) (g : Nat), vs[i]? = some u → vs[j]? = some u' → u.ownBlock = some g → u'.ownBlock = some g → i = j
theorem OwnIntRows.rows {base : Nat} {w : World} {v : Value} {xss : List (List Int)} (h : OwnIntRows base w v xss) : IntRows w v xss := by
  obtain ⟨vs, h1, h2, _⟩ := h
  exact ⟨vs, ownsRow_row h1, fun i hi => by obtain ⟨u, e, hu⟩ := h2 i hi; exact ⟨u, e, hu.ints⟩⟩
theorem OwnIntRows.ext {base : Nat} {w w' : World} {v : Value} {xss : List (List Int)} (h : OwnIntRows base w v xss) (he : Ext w w') : OwnIntRows base w' v xss := by
  obtain ⟨vs, h1, h2, h3⟩ := h
  exact ⟨vs, ownsRow_ext h1 he, fun i hi => by obtain ⟨u, e, hu⟩ := h2 i hi; exact ⟨u, e, hu.ext he⟩, h3⟩
/-- The blocks of a row differ from that of the slice of rows. -/
theorem own_ne {w : World} {base base' : Nat} {e e' : TypeId} {size size' : Nat} {v v' : Value} {n n' : Nat} {xs xs' : List Value} (h : w.ownsRow base e size v n xs) (h' : w.ownsRow base' e' size' v' n' xs') (hne : e ≠ e') :
    v.ownBlock = none ∨ v.ownBlock ≠ v'.ownBlock := by
  rcases h.2 with ⟨rfl, _⟩ | ⟨g, cap, cur, rfl, _, hg, _⟩
  · exact .inl rfl
  · rcases h'.2 with ⟨rfl, _⟩ | ⟨g', cap', cur', rfl, _, hg', _⟩
    · exact .inr (by simp [Value.ownBlock])
    · refine .inr fun he => ?_
      have : g = g' := by simpa [Value.ownBlock] using he
      subst this
      rw [hg] at hg'
      injection hg' with hg'
      injection hg' with _ ht
      exact hne ht
/-- One row is written anew, in its place. -/
theorem OwnIntRows.marked {base : Nat} {w w' : World} {v u : Value} {xss : List (List Int)} {vs : List Value} {i : Nat} {ys : List Int} (h1 : w.ownsRow base 25 1 v xss.length vs)
    (h2 : ∀ i, (h : i < xss.length) → ∃ u, vs[i]? = some u ∧ OwnInts base w u xss[i])
    (h3 : ∀ (i j : Nat) (u u' : Value) (g : Nat), vs[i]? = some u → vs[j]? = some u' → u.ownBlock = some g → u'.ownBlock = some g → i = j)
    (hi : i < xss.length) (hu : vs[i]? = some u) (ho : OwnInts base w' u ys) (hg : w.grownBy w' u.ownBlock) : OwnIntRows base w' v (xss.set i ys) := by
  refine ⟨vs, ?_, ?_, h3⟩
  · obtain ⟨u', e, hu'⟩ := h2 i hi
    rw [hu] at e
    injection e with e
    subst e
    rw [List.length_set]
    exact h1.kept hg (own_ne h1 hu' (by decide))
  · intro j hj
    rw [List.length_set] at hj
    obtain ⟨u', e, hu'⟩ := h2 j hj
    by_cases hij : i = j
    · subst hij
      rw [hu] at e
      injection e with e
      subst e
      exact ⟨u, hu, by simpa using ho⟩
    · refine ⟨u', e, ?_⟩
      rw [List.getElem_set_ne hij]
      refine World.ownsRow.kept hu' hg ?_
      cases hb : u'.ownBlock with
      | none => exact .inl rfl
      | some g => exact .inr fun he => hij (h3 i j u u' g hu e he.symm hb)
/-- The rows' lengths, filled with the numbers from k on. -/
def numRows (k : Int) : List (List Int) → List (List Int)
  | [] => []
  | x :: r => nums k x.length :: numRows (k + x.length) r
@[simp] theorem numRows_length (k : Int) (xss : List (List Int)) : (numRows k xss).length = xss.length := by
  induction xss generalizing k with
  | nil => rfl
  | cons x r ih => simp [numRows, ih]
end Go.Proofs.YthhjbmlkncdigaaGreatDoor
namespace Go.Proofs.YthhjbmlkncdigaaGreatDoor
open Go Go.RowKit Go.Proofs
set_option maxHeartbeats 400000
theorem set3 {base : Nat} {w : World} {e : TypeId} {g n cap : Nat} {xs : List Value} (h : w.ownsRow base e 3 (.slice (some ⟨g, 0, none⟩) n cap) n xs) (j : Nat) (a b c : Value) :
    (((w.setCell ⟨g, j, none⟩ a).setCell ⟨g, j + 1, none⟩ b).setCell ⟨g, j + 2, none⟩ c).ownsRow base e 3 (.slice (some ⟨g, 0, none⟩) n cap) n (((xs.set j a).set (j + 1) b).set (j + 2) c) ∧
    w.grownBy (((w.setCell ⟨g, j, none⟩ a).setCell ⟨g, j + 1, none⟩ b).setCell ⟨g, j + 2, none⟩ c) (some g) := by
  obtain ⟨a1, a2⟩ := h.stored j a
  obtain ⟨b1, b2⟩ := a1.stored (j + 1) b
  obtain ⟨c1, c2⟩ := b1.stored (j + 2) c
  exact ⟨c1, grownBy_trans a2 (grownBy_trans b2 c2)⟩
theorem markRuleS_c (base : Nat) (v : Value) (rs : List RuleD) (k : Int) (w : World) (h : OwnRules base w v rs) (h0 : 0 ≤ k) (h1 : k + 3 * rs.length ≤ 4611686018427387904) :
    Calls Tryz.prog 39 #[v, .int .i64 k] w fun e w' => e = .returned (.int .i64 (k + 3 * rs.length)) ∧ w.grownBy w' v.ownBlock := by
  obtain ⟨A, c, rfl, h2, h2'⟩ := h.rules.form
  go_enter Tryz.func39, Tryz.ntmps39
  go_wp2
  go_loopw [1, 5] (fun q i wr => ∃ j : Nat, j ≤ rs.length ∧ i = .int .i64 j ∧ q = .int .i64 (k + 3 * j) ∧ w.grownBy wr (Value.slice A rs.length c).ownBlock ∧ ∃ xs, wr.ownsRow base 98 3 (.slice A rs.length c) rs.length xs) (fun _ i _ => rs.length - (intOf i).toNat)
  case atStart => exact ⟨0, Nat.zero_le _, rfl, by simp, World.grownBy.refl _ _, _, h⟩
  case round =>
    obtain ⟨j, hj, rfl, rfl, hg, xs, ho⟩ := hrel
    have hl := ho.1
    by_cases hlt : j < rs.length
    · obtain ⟨g, rfl, hb, hgl⟩ := own_at ho (by omega)
      have q0 := ho.cellAt (j * 3) (by omega)
      have q1 := ho.cellAt (j * 3 + 1) (by omega)
      have q2 := ho.cellAt (j * 3 + 2) (by omega)
      have HL := Lib.hid hl
      have hl' : j * 3 + 2 < xs.length := by omega
      clear hl
      rw [List.getElem?_eq_getElem (by omega)] at q0 q1 q2
      have f0 := ho.frozenAt (j * 3)
      have f1 := ho.frozenAt (j * 3 + 1)
      have f2 := ho.frozenAt (j * 3 + 2)
      go_wp2
      obtain ⟨s1, s2⟩ := set3 ho (j * 3) (.int .i64 (k + 3 * j)) (.int .i64 (k + 3 * j + 1)) (.int .i64 (k + 3 * j + 1 + 1))
      go_roundw
      case rel => exact ⟨j + 1, by omega, by go_num, by congr 1; omega, grownBy_trans hg s2, _, s1⟩
      case measure => simp [intOf]; omega
    · have hje : j = rs.length := by omega
      subst hje
      go_wp2
      go_ret
      exact ⟨rfl, hg⟩
theorem markMachine_c (base : Nat) (a b : Int) (rv : Value) (rs : List RuleD) (k : Int) (w : World) (h : OwnRules base w rv rs) (hbw : base ≤ w.heap.size) (h0 : 0 ≤ k) (h1 : k + 3 * rs.length ≤ 4611686018427387904) :
    Calls Tryz.prog 13 #[.agg #[.int .i64 a, .int .i64 b, rv], .int .i64 k] w fun e w' => e = .returned (.int .i64 (k + 3 * rs.length)) ∧ Below base w w' ∧ w.grownBy w' rv.ownBlock := by
  go_enter Tryz.func13, Tryz.ntmps13
  go_wp2_with fail
  refine (markRuleS_c base _ _ _ _ (h.ext (Ext.alloc _ _)) h0 h1).mono ?_
  rintro e w2 ⟨rfl, hg⟩
  have hg' : w.grownBy w2 rv.ownBlock := grownBy_trans (World.grownBy_alloc _ _ _) hg
  clear hg
  go_wp2
  go_ret
  exact ⟨rfl, (Below.refl _ _).grown hg' hbw (fun b hb' => (h.lt b hb').1), hg'⟩
end Go.Proofs.YthhjbmlkncdigaaGreatDoor
end
section
namespace Go.Proofs.YthhjbmlkncdigaaGreatDoor
open Go Go.RowKit Go.ChangeShapes Go.WideShapes Go.Deep Go.Joins
section
variable {H : Type} {enc : TypeId × Value → H} {w : World}
theorem flat_of_rows {α : Type} {size : Nat} (c : α → List Value) (hc : ∀ a, (c a).length = size) : ∀ (ls : List α) (xs : List Value), xs.length = ls.length * size → (∀ i, (hi : i < ls.length) → (xs.drop (i * size)).take size = c ls[i]) → xs = ls.flatMap c
  | [], xs, h, _ => by simpa using h
  | a :: ls, xs, h, hh => by
    have h0 := hh 0 (by simp)
    simp only [Nat.zero_mul, List.drop_zero, List.getElem_cons_zero] at h0
    have ht := flat_of_rows c hc ls (xs.drop size) (by simp [h, Nat.succ_mul]) (fun i hi => by
      have := hh (i + 1) (by simpa using hi)
      simp only [List.getElem_cons_succ] at this
      rw [List.drop_drop, ← this]
      congr 2
      rw [Nat.succ_mul]; omega)
    rw [List.flatMap_cons, ← h0, ← ht, List.take_append_drop]
theorem open_ints {t : TypeId} {fuel : Nat} {v : Value} {x : DataW H × List MemPlace} (ht : Tryz.prog.underlying t = some (.slice 2)) (h : DataW.trod enc Tryz.prog w 0 (fun _ => true) true fuel t [v] = some x) : ∃ zs, Ints w v zs := by
  obtain ⟨ls, xs, h1, h2⟩ := open_rows (size := 1) (fun cs (a : Int) => cs = [.int .i64 a]) ht (by kernel_rfl) (by omega) (fun n cs y hy => by
    obtain ⟨k, e, _⟩ := open_i64 Tryz.underlying2 hy
    exact ⟨k, e⟩) h
  refine ⟨ls, ?_⟩
  have e : xs = ls.flatMap fun a => [.int .i64 a] := flat_of_rows (size := 1) (fun a => [.int .i64 a]) (fun _ => rfl) ls xs (by obtain ⟨_, _, _, _, _, q⟩ := h1.form; exact q) h2
  have e2 : xs = ivs ls := by rw [e]; unfold ivs; rw [List.map_eq_flatMap]
  unfold Ints
  rw [← e2]
  exact h1
theorem three_of {cs : List Value} {a b c : Value} (h : cs.length = 3) (h0 : (cs.drop 0).take 1 = [a]) (h1 : (cs.drop 1).take 1 = [b]) (h2 : (cs.drop 2).take 1 = [c]) : cs = [a, b, c] := by
  match cs, h with
  | [x, y, z], _ => simp_all
theorem cellsI64 : Tryz.prog.cellsOf 2 = 1 := by kernel_rfl
theorem cellsRule : Tryz.prog.cellsOf 100 = 3 := by kernel_rfl
theorem open_rules {fuel : Nat} {v : Value} {x : DataW H × List MemPlace} (h : DataW.trod enc Tryz.prog w 0 (fun _ => true) true fuel 22 [v] = some x) : ∃ rs, Rules w v rs := by
  obtain ⟨ls, xs, h1, h2⟩ := open_rows (size := 3) (fun cs (r : RuleD) => cs = [.int .i64 r.w, .int .i64 r.m, .int .i64 r.n]) Tryz.underlying22 (by kernel_rfl) (by omega) (fun n cs y hy => by
    obtain ⟨y0, y1, y2, n', _, hlen, g0, g1, g2⟩ := trod_struct3 Tryz.underlying100 hy
    have hlen3 : cs.length = 3 := hlen.trans cellsRule
    simp only [cellsI64] at g0 g1 g2
    obtain ⟨k0, e0, _⟩ := open_i64 Tryz.underlying2 g0
    obtain ⟨k1, e1, _⟩ := open_i64 Tryz.underlying2 g1
    obtain ⟨k2, e2, _⟩ := open_i64 Tryz.underlying2 g2
    exact ⟨⟨k0, k1, k2⟩, three_of hlen3 e0 e1 e2⟩) h
  refine ⟨ls, ?_⟩
  have e : xs = rvs ls := flat_of_rows (size := 3) (fun r : RuleD => [.int .i64 r.w, .int .i64 r.m, .int .i64 r.n]) (fun _ => rfl) ls xs (by obtain ⟨_, _, _, _, _, q⟩ := h1.form; exact q) h2
  unfold Rules
  rw [← e]
  exact h1
set_option maxRecDepth 100000 in
theorem open_mach {r : Reach} {b0 : Nat} {v : Value} {d : DataW H} {p : List MemPlace} (hv : Value.okWide Tryz.prog w r b0 24 v) (h : DataW.Trod enc Tryz.prog w 0 (fun _ => true) true 24 v d p) : ∃ m, Mach w v m := by
  obtain ⟨v0, v1, v2, y0, y1, y2, n, rfl, _, _, h0, h1, h2⟩ := open_agg3 Tryz.underlying24 (by kernel_rfl) (by kernel_rfl) hv h
  obtain ⟨k0, e0, _⟩ := open_i64 Tryz.underlying2 h0
  obtain ⟨k1, e1, _⟩ := open_i64 Tryz.underlying2 h1
  obtain ⟨rs, hr⟩ := open_rules h2
  injection e0 with e0 _
  injection e1 with e1 _
  subst e0
  subst e1
  exact ⟨⟨k0, k1, rs⟩, v2, rfl, hr⟩
end
end Go.Proofs.YthhjbmlkncdigaaGreatDoor
end
