/- What the machine on one half of the tape does in its places, in plain words.
Contracts of the program's actions of the machine on one half of the tape. The place and the symbol are the machine's. -/
import Derived.Test.YtjcfmlecfjmcgaaGreatDoorS11
import Derived.Test.YtjcfmlecfjmcgaaGreatDoorS04
section
namespace Go.Proofs.YtjcfmlecfjmcgaaGreatDoor
open Go Go.RowKit Go.Proofs
structure FP where
  k : Int
  q : Int
  h : Int
deriving DecidableEq
def FP.v (p : FP) : Value := .agg #[.int .i64 p.k, .int .i64 p.q, .int .i64 p.h]
theorem FP.v_inj (x y : FP) (h : x.v = y.v) : x = y := by
  cases x; cases y
  simp only [FP.v] at h
  injection h with h
  simp at h
  simp [h]
def ActV (a : ActG FP) : Value := .agg #[.int .i64 a.w, .int .i64 a.m, .int .i64 a.p.k, .int .i64 a.p.q, .int .i64 a.p.h, .bool a.no]
def noA : ActG FP := ⟨0, 0, ⟨0, 0, 0⟩, true⟩
def foldMainD (m : MachD) (q h v : Int) : ActG FP :=
  if m.rules.getD (q * m.sy + v).toNat noR = noR then noA
  else if ((m.rules.getD (q * m.sy + v).toNat noR).m == 1) == (h == 0) then ⟨(m.rules.getD (q * m.sy + v).toNat noR).w, 1, ⟨1, (m.rules.getD (q * m.sy + v).toNat noR).n, h⟩, false⟩
  else if h == 0 then ⟨(m.rules.getD (q * m.sy + v).toNat noR).w, -1, ⟨2, (m.rules.getD (q * m.sy + v).toNat noR).n, 0⟩, false⟩
  else ⟨(m.rules.getD (q * m.sy + v).toNat noR).w, -1, ⟨4, (m.rules.getD (q * m.sy + v).toNat noR).n, 0⟩, false⟩
def keepD (v : Int) (p : FP) (mv k h : Int) : ActG FP := ⟨v, mv, ⟨k, p.q, h⟩, false⟩
def actF (m : MachD) (p : FP) (v : Int) : ActG FP :=
  if p.k = 0 then (if v = m.sy then noA else foldMainD m p.q p.h v)
  else if p.k = 1 then (if v = m.sy then noA else keepD v p 1 0 p.h)
  else if p.k = 2 then (if v = m.sy then keepD v p 1 3 0 else keepD v p (-1) 0 0)
  else if p.k = 3 then (if v = m.sy then noA else keepD v p 1 0 1)
  else if p.k = 4 then (if v = m.sy then noA else keepD v p (-1) 5 0)
  else (if v = m.sy then keepD v p 1 0 0 else foldMainD m p.q 1 v)
structure POk (st : Int) (p : FP) : Prop where
  k0 : 0 ≤ p.k
  k5 : p.k ≤ 5
  q0 : 0 ≤ p.q
  q1 : p.q < st
  h01 : p.h = 0 ∨ p.h = 1
  hk : 2 ≤ p.k → p.h = 0
theorem POk.kinds {st : Int} {p : FP} (h : POk st p) : p.k = 0 ∨ p.k = 1 ∨ p.k = 2 ∨ p.k = 3 ∨ p.k = 4 ∨ p.k = 5 := by
  have := h.k0; have := h.k5; omega
theorem machOk_all {m : MachD} (h : machOk m = true) : 2 ≤ m.sy ∧ m.sy ≤ 6 ∧ 1 ≤ m.st ∧ m.st ≤ 1000 ∧ (m.rules.length : Int) = m.sy * m.st := by
  simp only [machOk, inB, Bool.and_eq_true, decide_eq_true_eq] at h
  omega
theorem ruleIx {m : MachD} {q v : Int} (s1 : 2 ≤ m.sy) (s2 : m.sy ≤ 6) (hl : (m.rules.length : Int) = m.sy * m.st) (q0 : 0 ≤ q) (q1 : q < m.st) (v0 : 0 ≤ v) (v1 : v < m.sy) : ∃ j : Nat, q * m.sy + v = j ∧ j < m.rules.length := by
  have h1 : 0 ≤ q * m.sy := Int.mul_nonneg q0 (by omega)
  have h2 : (q + 1) * m.sy ≤ m.st * m.sy := Int.mul_le_mul_of_nonneg_right (by omega) (by omega)
  have h3 : (q + 1) * m.sy = q * m.sy + m.sy := by rw [Int.add_mul, Int.one_mul]
  have h4 : m.st * m.sy = m.sy * m.st := Int.mul_comm _ _
  refine ⟨(q * m.sy + v).toNat, by omega, by omega⟩
end Go.Proofs.YtjcfmlecfjmcgaaGreatDoor
end
section
set_option linter.unusedSimpArgs false
set_option linter.unusedVariables false
namespace Go.Proofs.YtjcfmlecfjmcgaaGreatDoor
open Go Go.RowKit Go.Proofs
set_option maxHeartbeats 400000
set_option maxRecDepth 20000 in
set_option maxHeartbeats 4000000 in
theorem foldMain_c (mv : Value) (m : MachD) (q h v : Int) (k : Nat) (w : World) (hm : Mach w mv m) (hk : q * m.sy + v = k) (hl : k < m.rules.length) (_h6 : m.rules.length ≤ 6000) (s1 : 2 ≤ m.sy) (s2 : m.sy ≤ 6) (q0 : 0 ≤ q) (q1 : q ≤ 1000) (v0 : 0 ≤ v) (v1 : v ≤ 6) :
    Calls Tryz.prog 96 #[mv, .int .i64 q, .int .i64 h, .int .i64 v] w fun e w' => e = .returned (ActV (foldMainD m q h v)) ∧ Ext w w' := by
  obtain ⟨rv, rfl, hr⟩ := hm
  obtain ⟨A, c, rfl, h5, h5'⟩ := hr.form
  have e0 : m.rules.getD (q * m.sy + v).toNat noR = m.rules[k] := by
    rw [hk, List.getD_eq_getElem?_getD, Int.toNat_natCast, List.getElem?_eq_getElem hl]; rfl
  have hq : 0 ≤ q * m.sy ∧ q * m.sy ≤ 6000 := ⟨Int.mul_nonneg q0 (by omega), by have := Int.mul_le_mul q1 s2 (by omega) (by omega); omega⟩
  obtain ⟨b, off, rfl, hc⟩ := hr.at hl
  obtain ⟨c0, c1, c2⟩ := hc k hl
  have HD : Hid (foldMainD m q h v = if m.rules[k] = noR then noA else if (m.rules[k].m == 1) == (h == 0) then ⟨m.rules[k].w, 1, ⟨1, m.rules[k].n, h⟩, false⟩
    else if h == 0 then ⟨m.rules[k].w, -1, ⟨2, m.rules[k].n, 0⟩, false⟩ else ⟨m.rules[k].w, -1, ⟨4, m.rules[k].n, 0⟩, false⟩) := by
    unfold Hid foldMainD; rw [e0]
  generalize hrk : m.rules[k] = r at *
  obtain ⟨rw_, rm, rn⟩ := r
  simp only at c0 c1 c2 HD
  clear hrk e0 hc
  have hx := (Ext.alloc w (.cells #[.int .i64 m.sy, .int .i64 m.st, .slice (some ⟨b, off, none⟩) m.rules.length c] 35)).trans (Ext.alloc _ (.cells #[.int .i64 0, .int .i64 0, .int .i64 0, .int .i64 0, .int .i64 0, .bool false] 105))
  have c0 := hx.cell c0
  have c1 := hx.cell c1
  have c2 := hx.cell c2
  obtain ⟨W, hW⟩ : ∃ W, W = ((w.alloc (.cells #[.int .i64 m.sy, .int .i64 m.st, .slice (some ⟨b, off, none⟩) m.rules.length c] 35)).alloc (.cells #[.int .i64 0, .int .i64 0, .int .i64 0, .int .i64 0, .int .i64 0, .bool false] 105)).alloc (.cells #[.int .i64 rw_, .int .i64 rm, .int .i64 rn] 95) := ⟨_, rfl⟩
  have hXW : Ext w W := by rw [hW]; exact hx.trans (Ext.alloc _ _)
  have bZ : Blk W (w.heap.size + 1) 105 #[.int .i64 0, .int .i64 0, .int .i64 0, .int .i64 0, .int .i64 0, .bool false] := by rw [hW]; exact (Blk.new _ _ _ _ (by simp)).alloc _
  have bR : Blk W (w.heap.size + 2) 95 #[.int .i64 rw_, .int .i64 rm, .int .i64 rn] := by rw [hW]; exact Blk.new _ _ _ _ (by simp)
  go_enter Tryz.func96, Tryz.ntmps96
  go_wp2_with fail
  rw [← hW]
  clear hW c0 c1 c2
  refine (isRule_c _ _ _ _).mono ?_
  rintro e w1 ⟨rfl, hx1⟩
  have hX := hXW.trans hx1
  have z0 := (bZ.ext hx1).cell
  have z1 := (bZ.ext hx1).frozen
  have r0 := (bR.ext hx1).cell 0
  have r1 := (bR.ext hx1).cell 1
  have r2 := (bR.ext hx1).cell 2
  simp only [List.getElem?_toArray, List.getElem?_cons_zero, List.getElem?_cons_succ] at r0 r1 r2
  have hw1 : w.heap.size ≤ w.heap.size + 1 := by omega
  by_cases hn : (⟨rw_, rm, rn⟩ : RuleD) = noR
  · have hi : isR ⟨rw_, rm, rn⟩ = false := by simp [isR, rEq, hn]
    have HE : Hid (foldMainD m q h v = noA) := by unfold Hid; rw [HD.out, if_pos hn]
    rw [hi]
    clear hn hi HD
    go_wp2
    refine bodyPost_ret (v := ActV noA) (by simp [results, Tryz.results96, go_sem, z0, ActV, noA]) rfl ?_
    exact ⟨by rw [HE.out], by repeat (first | with_reducible exact hX | refine Ext.setCell ?_ hw1 _)⟩
  have hi : isR ⟨rw_, rm, rn⟩ = true := by simp [isR, rEq, hn]
  rw [hi]
  cases b1 : (rm == 1) with
  | true =>
    cases b2 : (h == 0) with
    | true =>
      have HE : Hid (foldMainD m q h v = ⟨rw_, 1, ⟨1, rn, h⟩, false⟩) := by unfold Hid; rw [HD.out, if_neg hn]; simp [b1, b2]
      clear hn hi HD
      go_wp2
      refine bodyPost_ret (v := ActV ⟨rw_, 1, ⟨1, rn, h⟩, false⟩) (by simp [results, Tryz.results96, go_sem, z0, ActV]) rfl ?_
      exact ⟨by rw [HE.out], by repeat (first | with_reducible exact hX | refine Ext.setCell ?_ hw1 _)⟩
    | false =>
      have HE : Hid (foldMainD m q h v = ⟨rw_, -1, ⟨4, rn, 0⟩, false⟩) := by unfold Hid; rw [HD.out, if_neg hn]; simp [b1, b2]
      clear hn hi HD
      go_wp2
      refine bodyPost_ret (v := ActV ⟨rw_, -1, ⟨4, rn, 0⟩, false⟩) (by simp [results, Tryz.results96, go_sem, z0, ActV]) rfl ?_
      exact ⟨by rw [HE.out], by repeat (first | with_reducible exact hX | refine Ext.setCell ?_ hw1 _)⟩
  | false =>
    cases b2 : (h == 0) with
    | true =>
      have HE : Hid (foldMainD m q h v = ⟨rw_, -1, ⟨2, rn, 0⟩, false⟩) := by unfold Hid; rw [HD.out, if_neg hn]; simp [b1, b2]
      clear hn hi HD
      go_wp2
      refine bodyPost_ret (v := ActV ⟨rw_, -1, ⟨2, rn, 0⟩, false⟩) (by simp [results, Tryz.results96, go_sem, z0, ActV]) rfl ?_
      exact ⟨by rw [HE.out], by repeat (first | with_reducible exact hX | refine Ext.setCell ?_ hw1 _)⟩
    | false =>
      have HE : Hid (foldMainD m q h v = ⟨rw_, 1, ⟨1, rn, h⟩, false⟩) := by unfold Hid; rw [HD.out, if_neg hn]; simp [b1, b2]
      clear hn hi HD
      go_wp2
      refine bodyPost_ret (v := ActV ⟨rw_, 1, ⟨1, rn, h⟩, false⟩) (by simp [results, Tryz.results96, go_sem, z0, ActV]) rfl ?_
      exact ⟨by rw [HE.out], by repeat (first | with_reducible exact hX | refine Ext.setCell ?_ hw1 _)⟩
end Go.Proofs.YtjcfmlecfjmcgaaGreatDoor
end
