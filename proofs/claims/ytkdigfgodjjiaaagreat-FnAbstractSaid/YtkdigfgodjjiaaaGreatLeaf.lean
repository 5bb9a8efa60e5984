/- Contracts of the small functions on numbers and rules. No condition. -/
import Derived.Test.YtkdigfgodjjiaaaGreatProg
import Derived.Test.YtkdigfgodjjiaaaGreatBase
import Derived.Lib.QuietBelow
import Derived.Laws.StructEq
namespace Go.Proofs.YtkdigfgodjjiaaaGreat
open Go Go.RowKit Go.Proofs
set_option maxHeartbeats 400000

def inB (n lo hi : Int) : Bool := decide (lo ≤ n) && decide (n ≤ hi)
theorem inB_true {n lo hi : Int} (h : lo ≤ n ∧ n ≤ hi) : inB n lo hi = true := by simp [inB, h.1, h.2]
theorem inB_iff {n lo hi : Int} : inB n lo hi = true ↔ lo ≤ n ∧ n ≤ hi := by simp [inB]
theorem inB_false1 {n lo hi : Int} (h : n < lo) : inB n lo hi = false := by simp [inB]; omega
theorem inB_false2 {n lo hi : Int} (h : hi < n) : inB n lo hi = false := by simp [inB]; omega
theorem within_c (n lo hi : Int) (w : World) : Calls Tryz.prog 51 #[.int .i64 n, .int .i64 lo, .int .i64 hi] w fun e w' => e = .returned (.bool (inB n lo hi)) ∧ w = w' := by
  rcases Int.lt_or_le n lo with h | h
  · have H := inB_false1 (hi := hi) h
    go_enter Tryz.func51, Tryz.ntmps51
    go_wp2
    go_ret
    exact ⟨by simp, rfl⟩
  · rcases Int.lt_or_le hi n with h2 | h2
    · have H := inB_false2 (lo := lo) h2
      go_enter Tryz.func51, Tryz.ntmps51
      go_wp2
      go_ret
      exact ⟨by simp [H, h2], rfl⟩
    · have H := inB_true ⟨h, h2⟩
      go_enter Tryz.func51, Tryz.ntmps51
      go_wp2
      go_ret
      exact ⟨by simp [H], rfl⟩
theorem l00In_c (n lo hi : Int) (w : World) : Calls Tryz.prog 41 #[.int .i64 n, .int .i64 lo, .int .i64 hi] w fun e w' => e = .returned (.bool (inB n lo hi)) ∧ w = w' := by
  rcases Int.lt_or_le n lo with h | h
  · have H := inB_false1 (hi := hi) h
    go_enter Tryz.func41, Tryz.ntmps41
    go_wp2
    go_ret
    exact ⟨by simp, rfl⟩
  · rcases Int.lt_or_le hi n with h2 | h2
    · have H := inB_false2 (lo := lo) h2
      go_enter Tryz.func41, Tryz.ntmps41
      go_wp2
      go_ret
      exact ⟨by simp [H, h2], rfl⟩
    · have H := inB_true ⟨h, h2⟩
      go_enter Tryz.func41, Tryz.ntmps41
      go_wp2
      go_ret
      exact ⟨by simp [H], rfl⟩

/-- A rule. -/
structure RuleD where
  w : Int
  m : Int
  n : Int
deriving DecidableEq
def RuleD.v (r : RuleD) : Value := .agg #[.int .i64 r.w, .int .i64 r.m, .int .i64 r.n]
def noR : RuleD := ⟨0, 0, -1⟩
theorem noRule_c (w : World) : Calls Tryz.prog 92 #[] w fun e w' => e = .returned (.agg #[.int .i64 0, .int .i64 0, .int .i64 (-1)]) ∧ Ext w w' := by
  go_enter Tryz.func92, Tryz.ntmps92
  go_wp2
  exact bodyPost_ret (v := .agg #[.int .i64 0, .int .i64 0, .int .i64 (-1)]) (by simp [results, Tryz.results92, go_sem]) rfl ⟨rfl, Ext.alloc _ _⟩
theorem l05None_c (w : World) : Calls Tryz.prog 40 #[] w fun e w' => e = .returned (.agg #[.int .i64 0, .int .i64 0, .int .i64 (-1)]) ∧ Ext w w' := by
  go_enter Tryz.func40, Tryz.ntmps40
  go_wp2
  exact bodyPost_ret (v := .agg #[.int .i64 0, .int .i64 0, .int .i64 (-1)]) (by simp [results, Tryz.results40, go_sem]) rfl ⟨rfl, Ext.alloc _ _⟩
def rEq (r s : RuleD) : Bool := decide (r = s)
theorem ruleGuard : Tryz.prog.eqGuardType Tryz.prog.depth 87 = false := by kernel_rfl
theorem ruleIs : Tryz.prog.underlying 87 = some (.struct (Tryz.prog.fieldsOf 87)) := by kernel_rfl
theorem ruleStood : Tryz.prog.stoodInHeld 87 = false := by kernel_rfl
theorem ruleEqual (w : World) (a b c x y z : Int) : (Op.equalIn 10000 87 (.agg #[.int .i64 a, .int .i64 b, .int .i64 c]) (.agg #[.int .i64 x, .int .i64 y, .int .i64 z])).run Tryz.prog w = .ok (decide ((⟨a, b, c⟩ : RuleD) = ⟨x, y, z⟩)) w := by
  have e : (Tryz.prog.fieldsOf 87).toList.map (fun f => (f.name, f.type, f.offset)) = [("Write", 2, 0), ("Move", 2, 1), ("Next", 2, 2)] := by kernel_rfl
  rw [run_equalIn_agg w 9999 _ _ _ ruleIs ruleStood]
  match h : (Tryz.prog.fieldsOf 87).toList with
  | [f0, f1, f2] =>
    rw [h] at e
    simp only [List.map_cons, List.map_nil, List.cons.injEq, Prod.mk.injEq, and_true] at e
    obtain ⟨⟨n0, t0, o0⟩, ⟨n1, t1, o1⟩, ⟨n2, t2, o2⟩⟩ := e
    by_cases h0 : a = x <;> by_cases h1 : b = y <;> by_cases h2 : c = z <;>
      simp [Op.eqFields, n0, t0, o0, n1, t1, o1, n2, t2, o2, go_sem, h0, h1, h2]
  | [] => rw [h] at e; simp at e
  | [_] => rw [h] at e; simp at e
  | [_, _] => rw [h] at e; simp at e
  | _ :: _ :: _ :: _ :: _ => rw [h] at e; simp at e
theorem ruleNeq_run (w : World) (a b c x y z : Int) : (binOp .neq 87 (.agg #[.int .i64 a, .int .i64 b, .int .i64 c]) (.agg #[.int .i64 x, .int .i64 y, .int .i64 z])).run Tryz.prog w = .ok (.bool (!rEq ⟨a, b, c⟩ ⟨x, y, z⟩)) w := by
  rw [run_neq_struct, ruleEqual]; rfl
theorem ruleEql_run (w : World) (a b c x y z : Int) : (binOp .eql 87 (.agg #[.int .i64 a, .int .i64 b, .int .i64 c]) (.agg #[.int .i64 x, .int .i64 y, .int .i64 z])).run Tryz.prog w = .ok (.bool (rEq ⟨a, b, c⟩ ⟨x, y, z⟩)) w := by
  rw [run_eql_struct, ruleEqual]; rfl
attribute [go_sem] ruleGuard
def isR (r : RuleD) : Bool := !(rEq r noR)
theorem isRule_c (a b c : Int) (w : World) : Calls Tryz.prog 68 #[.agg #[.int .i64 a, .int .i64 b, .int .i64 c]] w fun e w' => e = .returned (.bool (isR ⟨a, b, c⟩)) ∧ Ext w w' := by
  go_enter Tryz.func68, Tryz.ntmps68
  go_wp2
  obtain ⟨w1, bk, e1, e2, hx, _, _, c0, c1, c2⟩ := box3 w (.int .i64 a) (.int .i64 b) (.int .i64 c) 87
  rw [e1, e2]
  clear e1 e2
  have rn := ruleNeq_run
  have d0 := cellR c0
  have d1 := cellR c1
  have d2 := cellR c2
  refine wp_region_ext (by kernel_rfl) (by kernel_rfl) ?_
  repeat (go_big_quiet_step ((go_at_call 92; exact Calls.extR (noRule_c _))))
  refine wpQuiet_nil ?_
  intro w2 hx2
  go_wp2
  go_ret
  exact ⟨by simp [isR, noR], hx.trans hx2⟩
end Go.Proofs.YtkdigfgodjjiaaaGreat
