/- Contracts of the small functions on numbers and rules. No condition.
Contracts of the laws' own helpers: sizes, copies, comparisons. No condition.
Contracts of the laws' copies of machines. No condition.
Contracts of the laws' copies of machines, continued. No condition.
Contracts of the laws' comparisons of lists, and of the marks that they lay and look for. The marks stay below 2 to the power of 62.
Contracts of the marks that the laws lay and look for. The marks stay below 2 to the power of 62.
Contracts of the marks that the laws lay and look for, in slices of slices and in machines. The marks stay below 2 to the power of 62.
Contracts of the marks that the laws look for in slices of slices, and lay in machines. The marks stay below 2 to the power of 62.
The arguments of the laws of this seat, opened: a machine, numbers. No condition. -/
import Derived.Test.YtapjofbjedpmgaaGreatProg
import Derived.Test.YtapjofbjedpmgaaGreatC01
import Derived.Lib.QuietBelow
import Derived.Laws.StructEq
section
namespace Go.Proofs.YtapjofbjedpmgaaGreat
open Go Go.RowKit Go.Proofs
set_option maxHeartbeats 400000
def inB (n lo hi : Int) : Bool := decide (lo ≤ n) && decide (n ≤ hi)
theorem inB_true {n lo hi : Int} (h : lo ≤ n ∧ n ≤ hi) : inB n lo hi = true := by simp [inB, h.1, h.2]
theorem inB_iff {n lo hi : Int} : inB n lo hi = true ↔ lo ≤ n ∧ n ≤ hi := by simp [inB]
theorem inB_false1 {n lo hi : Int} (h : n < lo) : inB n lo hi = false := by simp [inB]; omega
theorem inB_false2 {n lo hi : Int} (h : hi < n) : inB n lo hi = false := by simp [inB]; omega
theorem within_c (n lo hi : Int) (w : World) : Calls Tryz.prog 45 #[.int .i64 n, .int .i64 lo, .int .i64 hi] w fun e w' => e = .returned (.bool (inB n lo hi)) ∧ w = w' := by
  rcases Int.lt_or_le n lo with h | h
  · have H := inB_false1 (hi := hi) h
    go_enter Tryz.func45, Tryz.ntmps45
    go_wp2
    go_ret
    exact ⟨by simp, rfl⟩
  · rcases Int.lt_or_le hi n with h2 | h2
    · have H := inB_false2 (lo := lo) h2
      go_enter Tryz.func45, Tryz.ntmps45
      go_wp2
      go_ret
      exact ⟨by simp [H, h2], rfl⟩
    · have H := inB_true ⟨h, h2⟩
      go_enter Tryz.func45, Tryz.ntmps45
      go_wp2
      go_ret
      exact ⟨by simp [H], rfl⟩
theorem l00In_c (n lo hi : Int) (w : World) : Calls Tryz.prog 134 #[.int .i64 n, .int .i64 lo, .int .i64 hi] w fun e w' => e = .returned (.bool (inB n lo hi)) ∧ w = w' := by
  rcases Int.lt_or_le n lo with h | h
  · have H := inB_false1 (hi := hi) h
    go_enter Tryz.func134, Tryz.ntmps134
    go_wp2
    go_ret
    exact ⟨by simp, rfl⟩
  · rcases Int.lt_or_le hi n with h2 | h2
    · have H := inB_false2 (lo := lo) h2
      go_enter Tryz.func134, Tryz.ntmps134
      go_wp2
      go_ret
      exact ⟨by simp [H, h2], rfl⟩
    · have H := inB_true ⟨h, h2⟩
      go_enter Tryz.func134, Tryz.ntmps134
      go_wp2
      go_ret
      exact ⟨by simp [H], rfl⟩

/-- A rule. -/
structure RuleD where
  w : Int
  m : Int
  n : Int
deriving DecidableEq
def RuleD.v (r : RuleD) : Value := .agg #[.int .i64 r.w, .int .i64 r.m, .int .i64 r.n]
def noR : RuleD := ⟨0, 0, -1⟩
theorem noRule_c (w : World) : Calls Tryz.prog 99 #[] w fun e w' => e = .returned (.agg #[.int .i64 0, .int .i64 0, .int .i64 (-1)]) ∧ Ext w w' := by
  go_enter Tryz.func99, Tryz.ntmps99
  go_wp2
  exact bodyPost_ret (v := .agg #[.int .i64 0, .int .i64 0, .int .i64 (-1)]) (by simp [results, Tryz.results99, go_sem]) rfl ⟨rfl, Ext.alloc _ _⟩
theorem l05None_c (w : World) : Calls Tryz.prog 94 #[] w fun e w' => e = .returned (.agg #[.int .i64 0, .int .i64 0, .int .i64 (-1)]) ∧ Ext w w' := by
  go_enter Tryz.func94, Tryz.ntmps94
  go_wp2
  exact bodyPost_ret (v := .agg #[.int .i64 0, .int .i64 0, .int .i64 (-1)]) (by simp [results, Tryz.results94, go_sem]) rfl ⟨rfl, Ext.alloc _ _⟩
def rEq (r s : RuleD) : Bool := decide (r = s)
theorem ruleGuard : Tryz.prog.eqGuardType Tryz.prog.depth 65 = false := by kernel_rfl
theorem ruleIs : Tryz.prog.underlying 65 = some (.struct (Tryz.prog.fieldsOf 65)) := by kernel_rfl
theorem ruleStood : Tryz.prog.stoodInHeld 65 = false := by kernel_rfl
theorem ruleEqual (w : World) (a b c x y z : Int) : (Op.equalIn 10000 65 (.agg #[.int .i64 a, .int .i64 b, .int .i64 c]) (.agg #[.int .i64 x, .int .i64 y, .int .i64 z])).run Tryz.prog w = .ok (decide ((⟨a, b, c⟩ : RuleD) = ⟨x, y, z⟩)) w := by
  have e : (Tryz.prog.fieldsOf 65).toList.map (fun f => (f.name, f.type, f.offset)) = [("Write", 2, 0), ("Move", 2, 1), ("Next", 2, 2)] := by kernel_rfl
  rw [run_equalIn_agg w 9999 _ _ _ ruleIs ruleStood]
  match h : (Tryz.prog.fieldsOf 65).toList with
  | [f0, f1, f2] =>
    rw [h] at e
    simp only [List.map_cons, List.map_nil, List.cons.injEq, Prod.mk.injEq, and_true] at e
    obtain ⟨⟨n0, t0, o0⟩, ⟨n1, t1, o1⟩, ⟨n2, t2, o2⟩⟩ := e
    by_cases h0 : a = x <;> by_cases h1 : b = y <;> by_cases h2 : c = z <;>
      simp [Op.eqFields, n0, t0, o0, n1, t1, o1, n2, t2, o2, go_sem, h0, h1, h2]
  | [] => rw [h] at e; simp at e
  | [_] => rw [h] at e; simp at e
  | [_, _] => rw [h] at e; simp at e
  | _ :: _ :: _ :: _ :: _ => rw [h] at e; simp at e
theorem ruleNeq_run (w : World) (a b c x y z : Int) : (binOp .neq 65 (.agg #[.int .i64 a, .int .i64 b, .int .i64 c]) (.agg #[.int .i64 x, .int .i64 y, .int .i64 z])).run Tryz.prog w = .ok (.bool (!rEq ⟨a, b, c⟩ ⟨x, y, z⟩)) w := by
  rw [run_neq_struct, ruleEqual]; rfl
theorem ruleEql_run (w : World) (a b c x y z : Int) : (binOp .eql 65 (.agg #[.int .i64 a, .int .i64 b, .int .i64 c]) (.agg #[.int .i64 x, .int .i64 y, .int .i64 z])).run Tryz.prog w = .ok (.bool (rEq ⟨a, b, c⟩ ⟨x, y, z⟩)) w := by
  rw [run_eql_struct, ruleEqual]; rfl
attribute [go_sem] ruleGuard
def isR (r : RuleD) : Bool := !(rEq r noR)
theorem isRule_c (a b c : Int) (w : World) : Calls Tryz.prog 67 #[.agg #[.int .i64 a, .int .i64 b, .int .i64 c]] w fun e w' => e = .returned (.bool (isR ⟨a, b, c⟩)) ∧ Ext w w' := by
  go_enter Tryz.func67, Tryz.ntmps67
  go_wp2
  obtain ⟨w1, bk, e1, e2, hx, _, _, c0, c1, c2⟩ := box3 w (.int .i64 a) (.int .i64 b) (.int .i64 c) 65
  rw [e1, e2]
  clear e1 e2
  have rn := ruleNeq_run
  have d0 := cellR c0
  have d1 := cellR c1
  have d2 := cellR c2
  refine wp_region_ext (by kernel_rfl) (by kernel_rfl) ?_
  repeat (go_big_quiet_step ((go_at_call 99; exact Calls.extR (noRule_c _))))
  refine wpQuiet_nil ?_
  intro w2 hx2
  go_wp2
  go_ret
  exact ⟨by simp [isR, noR], hx.trans hx2⟩
end Go.Proofs.YtapjofbjedpmgaaGreat
end
section
namespace Go.Proofs.YtapjofbjedpmgaaGreat
open Go Go.RowKit Go.Proofs
set_option maxHeartbeats 400000
def rvs (rs : List RuleD) : List Value := rs.flatMap fun r => [.int .i64 r.w, .int .i64 r.m, .int .i64 r.n]
theorem rvs_get (rs : List RuleD) (i : Nat) (h : i < rs.length) : (rvs rs)[i * 3]? = some (.int .i64 rs[i].w) ∧ (rvs rs)[i * 3 + 1]? = some (.int .i64 rs[i].m) ∧ (rvs rs)[i * 3 + 2]? = some (.int .i64 rs[i].n) := by
  induction rs generalizing i with
  | nil => simp at h
  | cons r rs ih =>
    cases i with
    | zero => simp [rvs]
    | succ i =>
      have := ih i (by simpa using h)
      simp only [rvs, List.flatMap_cons, List.getElem_cons_succ] at *
      have e : (i + 1) * 3 = i * 3 + 3 := by omega
      have e1 : i * 3 + 3 + 1 = i * 3 + 1 + 3 := by omega
      have e2 : i * 3 + 3 + 2 = i * 3 + 2 + 3 := by omega
      rw [e, e1, e2]
      simpa using this
/-- A slice of rules. -/
def Rules (w : World) (v : Value) (rs : List RuleD) : Prop := Row w 3 v rs.length (rvs rs)
theorem Rules.ext {w w' : World} {v : Value} {rs : List RuleD} (h : Rules w v rs) (he : Ext w w') : Rules w' v rs := Row.ext h he
theorem Rules.form {w : World} {v : Value} {rs : List RuleD} (h : Rules w v rs) : ∃ A c, v = .slice A rs.length c ∧ rs.length ≤ c ∧ c ≤ 9223372036854775807 := by
  obtain ⟨A, c, hv, h1, h2, _⟩ := Row.form h
  exact ⟨A, c, hv, h1, h2⟩
theorem Rules.at {w : World} {c : Nat} {A : Option Addr} {rs : List RuleD} (h : Rules w (.slice A rs.length c) rs) {k : Nat} (hk : k < rs.length) :
    ∃ b off, A = some ⟨b, off, none⟩ ∧ ∀ j, (hj : j < rs.length) → w.cell? ⟨b, off + j * 3, none⟩ = some (.int .i64 rs[j].w) ∧ w.cell? ⟨b, off + j * 3 + 1, none⟩ = some (.int .i64 rs[j].m) ∧ w.cell? ⟨b, off + j * 3 + 2, none⟩ = some (.int .i64 rs[j].n) := by
  obtain ⟨b, off, hA, hc⟩ := Row.at h hk
  refine ⟨b, off, hA, fun j hj => ?_⟩
  obtain ⟨e0, e1, e2⟩ := rvs_get rs j hj
  refine ⟨by rw [hc (j * 3) (by omega), e0], ?_, ?_⟩
  · rw [Nat.add_assoc, hc (j * 3 + 1) (by omega), e1]
  · rw [Nat.add_assoc, hc (j * 3 + 2) (by omega), e2]

end Go.Proofs.YtapjofbjedpmgaaGreat
namespace Go.Proofs.YtapjofbjedpmgaaGreat
open Go Go.RowKit Go.Proofs
set_option maxHeartbeats 400000
/-- A machine. -/
structure MachD where
  sy : Int
  st : Int
  rules : List RuleD
deriving DecidableEq
def Mach (w : World) (v : Value) (m : MachD) : Prop := ∃ rv, v = .agg #[.int .i64 m.sy, .int .i64 m.st, rv] ∧ Rules w rv m.rules
theorem Mach.ext {w w' : World} {v : Value} {m : MachD} (h : Mach w v m) (he : Ext w w') : Mach w' v m := by
  obtain ⟨rv, hv, hr⟩ := h; exact ⟨rv, hv, hr.ext he⟩
end Go.Proofs.YtapjofbjedpmgaaGreat
namespace Go.Proofs.YtapjofbjedpmgaaGreat
open Go Go.RowKit Go.Proofs
set_option maxHeartbeats 400000
/-- The first k rules stand in the cells. -/
def filled (rs : List RuleD) (k : Nat) (xs : List Value) : Prop := xs.take (k * 3) = rvs (rs.take k)
theorem rvs_append (a b : List RuleD) : rvs (a ++ b) = rvs a ++ rvs b := by simp [rvs]
/-- A slice of rules that lies in memory of the call's own. -/
def OwnRules (base : Nat) (w : World) (v : Value) (rs : List RuleD) : Prop := w.ownsRow base 65 3 v rs.length (rvs rs)
theorem OwnRules.rules {base : Nat} {w : World} {v : Value} {rs : List RuleD} (h : OwnRules base w v rs) : Rules w v rs := ownsRow_row h
theorem OwnRules.ext {base : Nat} {w w' : World} {v : Value} {rs : List RuleD} (h : OwnRules base w v rs) (he : Ext w w') : OwnRules base w' v rs := ownsRow_ext h he

end Go.Proofs.YtapjofbjedpmgaaGreat
namespace Go.Proofs.YtapjofbjedpmgaaGreat
open Go Go.RowKit Go.Proofs
set_option maxHeartbeats 400000
def lEq {α : Type} [DecidableEq α] (xs ys : List α) : Bool := decide (xs = ys)
end Go.Proofs.YtapjofbjedpmgaaGreat
namespace Go.Proofs.YtapjofbjedpmgaaGreat
open Go Go.RowKit Go.Proofs
set_option maxHeartbeats 400000
/-- n numbers from k on. -/
def nums (k : Int) (n : Nat) : List Int := (List.range n).map fun i => k + (i : Nat)
@[simp] theorem nums_length (k : Int) (n : Nat) : (nums k n).length = n := by simp [nums]
/-- A slice of numbers in memory of the call's own. -/
def OwnInts (base : Nat) (w : World) (v : Value) (zs : List Int) : Prop := w.ownsRow base 2 1 v zs.length (ivs zs)
theorem OwnInts.ints {base : Nat} {w : World} {v : Value} {zs : List Int} (h : OwnInts base w v zs) : Ints w v zs := ownsRow_row h
theorem OwnInts.ext {base : Nat} {w w' : World} {v : Value} {zs : List Int} (h : OwnInts base w v zs) (he : Ext w w') : OwnInts base w' v zs := ownsRow_ext h he
theorem ivs_append (a b : List Int) : ivs (a ++ b) = ivs a ++ ivs b := by simp [ivs]
theorem grownBy_trans {a b c : World} {row : Option Nat} (h : a.grownBy b row) (k : b.grownBy c row) : a.grownBy c row :=
  ⟨k.os.trans h.os, k.tape.trans h.tape, k.output.trans h.output, Nat.le_trans h.size k.size, fun i hi hne => (k.block i (Nat.lt_of_lt_of_le hi h.size) hne).trans (h.block i hi hne)⟩
end Go.Proofs.YtapjofbjedpmgaaGreat
namespace Go.Proofs.YtapjofbjedpmgaaGreat
open Go Go.RowKit Go.Proofs
set_option maxHeartbeats 400000
/-- A slice of slices of numbers, all in memory of the call's own, no two of them in one block. -/
def OwnIntRows (base : Nat) (w : World) (v : Value) (xss : List (List Int)) : Prop :=
  ∃ vs : List Value, w.ownsRow base 27 1 v xss.length vs ∧ (∀ i, (h : i < xss.length) → ∃ u, vs[i]? = some u ∧ OwnInts base w u xss[i]) ∧
    ∀ (i j : Nat) (u u' : Value) (g : Nat), vs[i]? = some u → vs[j]? = some u' → u.ownBlock = some g → u'.ownBlock = some g → i = j
theorem OwnIntRows.rows {base : Nat} {w : World} {v : Value} {xss : List (List Int)} (h : OwnIntRows base w v xss) : IntRows w v xss := by
  obtain ⟨vs, h1, h2, _⟩ := h
  exact ⟨vs, ownsRow_row h1, fun i hi => by obtain ⟨u, e, hu⟩ := h2 i hi; exact ⟨u, e, hu.ints⟩⟩
theorem OwnIntRows.ext {base : Nat} {w w' : World} {v : Value} {xss : List (List Int)} (h : OwnIntRows base w v xss) (he : Ext w w') : OwnIntRows base w' v xss := by
  obtain ⟨vs, h1, h2, h3⟩ := h
  exact ⟨vs, ownsRow_ext h1 he, fun i hi => by obtain ⟨u, e, hu⟩ := h2 i hi; exact ⟨u, e, hu.ext he⟩, h3⟩
/-- The blocks of a row differ from that of the slice of rows. -/
theorem own_ne {w : World} {base base' : Nat} {e e' : TypeId} {size size' : Nat} {v v' : Value} {n n' : Nat} {xs xs' : List Value} (h : w.ownsRow base e size v n xs) (h' : w.ownsRow base' e' size' v' n' xs') (hne : e ≠ e') :
    v.ownBlock = none ∨ v.ownBlock ≠ v'.ownBlock := by
  rcases h.2 with ⟨rfl, _⟩ | ⟨g, cap, cur, rfl, _, hg, _⟩
  · exact .inl rfl
  · rcases h'.2 with ⟨rfl, _⟩ | ⟨g', cap', cur', rfl, _, hg', _⟩
    · exact .inr (by simp [Value.ownBlock])
    · refine .inr fun he => ?_
      have : g = g' := by simpa [Value.ownBlock] using he
      subst this
      rw [hg] at hg'
      injection hg' with hg'
      injection hg' with _ ht
      exact hne ht
def tot (xss : List (List Int)) : Nat := (xss.map List.length).sum
/-- The rows' lengths, filled with the numbers from k on. -/
def numRows (k : Int) : List (List Int) → List (List Int)
  | [] => []
  | x :: r => nums k x.length :: numRows (k + x.length) r
@[simp] theorem numRows_length (k : Int) (xss : List (List Int)) : (numRows k xss).length = xss.length := by
  induction xss generalizing k with
  | nil => rfl
  | cons x r ih => simp [numRows, ih]
theorem tot_append (a b : List (List Int)) : tot (a ++ b) = tot a + tot b := by simp [tot]
theorem tot_take_succ (xss : List (List Int)) (i : Nat) (h : i < xss.length) : tot (xss.take (i + 1)) = tot (xss.take i) + xss[i].length := by
  rw [List.take_succ_eq_append_getElem h, tot_append]; simp [tot]
theorem tot_take_le (xss : List (List Int)) (i : Nat) : tot (xss.take i) ≤ tot xss := by
  have : tot xss = tot (xss.take i) + tot (xss.drop i) := by rw [← tot_append, List.take_append_drop]
  omega
end Go.Proofs.YtapjofbjedpmgaaGreat
namespace Go.Proofs.YtapjofbjedpmgaaGreat
open Go Go.RowKit Go.Proofs
set_option maxHeartbeats 400000
end Go.Proofs.YtapjofbjedpmgaaGreat
end
section
namespace Go.Proofs.YtapjofbjedpmgaaGreat
open Go Go.RowKit Go.ChangeShapes Go.WideShapes Go.Deep Go.Joins
section
variable {H : Type} {enc : TypeId × Value → H} {w : World}
theorem flat_of_rows {α : Type} {size : Nat} (c : α → List Value) (hc : ∀ a, (c a).length = size) : ∀ (ls : List α) (xs : List Value), xs.length = ls.length * size → (∀ i, (hi : i < ls.length) → (xs.drop (i * size)).take size = c ls[i]) → xs = ls.flatMap c
  | [], xs, h, _ => by simpa using h
  | a :: ls, xs, h, hh => by
    have h0 := hh 0 (by simp)
    simp only [Nat.zero_mul, List.drop_zero, List.getElem_cons_zero] at h0
    have ht := flat_of_rows c hc ls (xs.drop size) (by simp [h, Nat.succ_mul]) (fun i hi => by
      have := hh (i + 1) (by simpa using hi)
      simp only [List.getElem_cons_succ] at this
      rw [List.drop_drop, ← this]
      congr 2
      rw [Nat.succ_mul]; omega)
    rw [List.flatMap_cons, ← h0, ← ht, List.take_append_drop]
end
end Go.Proofs.YtapjofbjedpmgaaGreat
end
