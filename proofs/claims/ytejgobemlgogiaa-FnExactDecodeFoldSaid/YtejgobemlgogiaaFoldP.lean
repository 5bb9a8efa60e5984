/- What the machine on one half of the tape does in its places, in plain words. -/
import Derived.Test.YtejgobemlgogiaaBldP
import Derived.Test.YtejgobemlgogiaaValid
namespace Go.Proofs.Ytejgobemlgogiaa
open Go Go.RowKit Go.Proofs
structure FP where
  k : Int
  q : Int
  h : Int
deriving DecidableEq
def FP.v (p : FP) : Value := .agg #[.int .i64 p.k, .int .i64 p.q, .int .i64 p.h]
theorem FP.v_inj (x y : FP) (h : x.v = y.v) : x = y := by
  cases x; cases y
  simp only [FP.v] at h
  injection h with h
  simp at h
  simp [h]
def ActV (a : ActG FP) : Value := .agg #[.int .i64 a.w, .int .i64 a.m, .int .i64 a.p.k, .int .i64 a.p.q, .int .i64 a.p.h, .bool a.no]
def noA : ActG FP := ⟨0, 0, ⟨0, 0, 0⟩, true⟩
def foldMainD (m : MachD) (q h v : Int) : ActG FP :=
  if m.rules.getD (q * m.sy + v).toNat noR = noR then noA
  else if ((m.rules.getD (q * m.sy + v).toNat noR).m == 1) == (h == 0) then ⟨(m.rules.getD (q * m.sy + v).toNat noR).w, 1, ⟨1, (m.rules.getD (q * m.sy + v).toNat noR).n, h⟩, false⟩
  else if h == 0 then ⟨(m.rules.getD (q * m.sy + v).toNat noR).w, -1, ⟨2, (m.rules.getD (q * m.sy + v).toNat noR).n, 0⟩, false⟩
  else ⟨(m.rules.getD (q * m.sy + v).toNat noR).w, -1, ⟨4, (m.rules.getD (q * m.sy + v).toNat noR).n, 0⟩, false⟩
def keepD (v : Int) (p : FP) (mv k h : Int) : ActG FP := ⟨v, mv, ⟨k, p.q, h⟩, false⟩
def actF (m : MachD) (p : FP) (v : Int) : ActG FP :=
  if p.k = 0 then (if v = m.sy then noA else foldMainD m p.q p.h v)
  else if p.k = 1 then (if v = m.sy then noA else keepD v p 1 0 p.h)
  else if p.k = 2 then (if v = m.sy then keepD v p 1 3 0 else keepD v p (-1) 0 0)
  else if p.k = 3 then (if v = m.sy then noA else keepD v p 1 0 1)
  else if p.k = 4 then (if v = m.sy then noA else keepD v p (-1) 5 0)
  else (if v = m.sy then keepD v p 1 0 0 else foldMainD m p.q 1 v)
structure POk (st : Int) (p : FP) : Prop where
  k0 : 0 ≤ p.k
  k5 : p.k ≤ 5
  q0 : 0 ≤ p.q
  q1 : p.q < st
  h01 : p.h = 0 ∨ p.h = 1
  hk : 2 ≤ p.k → p.h = 0
theorem POk.kinds {st : Int} {p : FP} (h : POk st p) : p.k = 0 ∨ p.k = 1 ∨ p.k = 2 ∨ p.k = 3 ∨ p.k = 4 ∨ p.k = 5 := by
  have := h.k0; have := h.k5; omega
theorem machOk_all {m : MachD} (h : machOk m = true) : 2 ≤ m.sy ∧ m.sy ≤ 6 ∧ 1 ≤ m.st ∧ m.st ≤ 1000 ∧ (m.rules.length : Int) = m.sy * m.st := by
  simp only [machOk, inB, Bool.and_eq_true, decide_eq_true_eq] at h
  omega
theorem ruleIx {m : MachD} {q v : Int} (s1 : 2 ≤ m.sy) (s2 : m.sy ≤ 6) (hl : (m.rules.length : Int) = m.sy * m.st) (q0 : 0 ≤ q) (q1 : q < m.st) (v0 : 0 ≤ v) (v1 : v < m.sy) : ∃ j : Nat, q * m.sy + v = j ∧ j < m.rules.length := by
  have h1 : 0 ≤ q * m.sy := Int.mul_nonneg q0 (by omega)
  have h2 : (q + 1) * m.sy ≤ m.st * m.sy := Int.mul_le_mul_of_nonneg_right (by omega) (by omega)
  have h3 : (q + 1) * m.sy = q * m.sy + m.sy := by rw [Int.add_mul, Int.one_mul]
  have h4 : m.st * m.sy = m.sy * m.st := Int.mul_comm _ _
  refine ⟨(q * m.sy + v).toNat, by omega, by omega⟩
end Go.Proofs.Ytejgobemlgogiaa
