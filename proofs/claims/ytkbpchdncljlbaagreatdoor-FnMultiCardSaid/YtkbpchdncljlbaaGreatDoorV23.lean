/- Contracts of the reference's step of a machine.
Plain words on configurations of a machine: one that is valid, and the reference's step of it.
Contracts of the program's runner of a machine: what it looks at. The machine is valid and the configuration is one of its. -/
import Derived.Test.YtkbpchdncljlbaaGreatDoorV11
import Derived.Test.YtkbpchdncljlbaaGreatDoorV22
import Derived.Test.YtkbpchdncljlbaaGreatDoorV04
import Derived.Test.YtkbpchdncljlbaaGreatDoorV06
import Derived.Deep.RegionHeld3
import Derived.Deep.RegionLaw
import Derived.Test.YtkbpchdncljlbaaGreatDoorV12
import Derived.Test.YtkbpchdncljlbaaGreatDoorV15
import Derived.Maps.AppendAt
section
namespace Go.Proofs.YtkbpchdncljlbaaGreatDoor
open Go Go.RowKit Go.Proofs
set_option maxHeartbeats 400000
/-- What a configuration must be for a step. -/
structure COk (m : MachD) (c : ConfR) (k : Nat) : Prop where
  q0 : 0 ≤ c.q
  q1 : c.q ≤ 1000
  s0 : 2 ≤ m.sy
  s1 : m.sy ≤ 6
  r0 : 0 ≤ hdR c.r
  r1 : hdR c.r ≤ 6
  kl : k < m.rules.length
  ke : c.q * m.sy + hdR c.r = (k : Int)
  ll : c.l.length ≤ 1000
  rl : c.r.length ≤ 1000
/-- The configuration after a step. -/
def stepC (ru : RuleD) (c : ConfR) : ConfR :=
  if 0 < ru.m then ⟨ru.n, trim (ru.w :: c.l), c.r.drop 1⟩ else ⟨ru.n, c.l.drop 1, trim (hdR c.l :: trim (ru.w :: c.r.drop 1))⟩
def ConfV (w : World) (v : Value) (c : ConfR) : Prop := ∃ lv rv bl br, v = .agg #[.int .i64 c.q, lv, rv] ∧ OwnInts bl w lv c.l ∧ OwnInts br w rv c.r
theorem ConfV.ext {w w' : World} {v : Value} {c : ConfR} (h : ConfV w v c) (he : Ext w w') : ConfV w' v c := by
  obtain ⟨lv, rv, bl, br, hv, h1, h2⟩ := h
  exact ⟨lv, rv, bl, br, hv, h1.ext he, h2.ext he⟩
end Go.Proofs.YtkbpchdncljlbaaGreatDoor
end
section
set_option linter.unusedSimpArgs false
set_option linter.unusedVariables false
namespace Go.Proofs.YtkbpchdncljlbaaGreatDoor
open Go Go.RowKit Go.Proofs
theorem conf_good {m : MachD} {c : ConfD} (h : confB m c = true) : IGood m c ∧ (c.l.length ≤ 200 ∧ c.r.length ≤ 200) ∧ tidyL c.l ∧ tidyL c.r := by
  simp only [confB, sideOk, inB, Bool.and_eq_true, Bool.or_eq_true, decide_eq_true_eq, List.all_eq_true, beq_iff_eq, bne_iff_ne, ne_eq] at h
  obtain ⟨⟨hq, ⟨hl1, hl2⟩, hl3⟩, ⟨hr1, hr2⟩, hr3⟩ := h
  refine ⟨⟨by omega, by omega, fun z hz => by have := hl2 z hz; omega, fun z hz => by have := hr2 z hz; omega⟩, ⟨by omega, by omega⟩, ?_, ?_⟩
  · rcases hl3 with h | h
    · exact .inl (List.length_eq_zero_iff.1 (by omega))
    · exact .inr h
  · rcases hr3 with h | h
    · exact .inl (List.length_eq_zero_iff.1 (by omega))
    · exact .inr h
theorem conf_back {m : MachD} {c : ConfD} (hg : IGood m c) (hf : c.l.length ≤ 200 ∧ c.r.length ≤ 200) (ht : tidyL c.l ∧ tidyL c.r) : confB m c = true := by
  have side : ∀ xs : List Int, xs.length ≤ 200 → (∀ z ∈ xs, 0 ≤ z ∧ z < m.sy) → tidyL xs → sideOk xs m.sy 200 = true := fun xs h1 h2 h3 => by
    simp only [sideOk, inB, Bool.and_eq_true, Bool.or_eq_true, decide_eq_true_eq, List.all_eq_true, beq_iff_eq, bne_iff_ne, ne_eq]
    refine ⟨⟨by omega, fun z hz => by have := h2 z hz; omega⟩, ?_⟩
    rcases h3 with h3 | h3
    · left; rw [h3]; rfl
    · exact .inr h3
  simp only [confB, Bool.and_eq_true]
  refine ⟨⟨?_, side _ hf.1 hg.l ht.1⟩, side _ hf.2 hg.r ht.2⟩
  have h0 := hg.q0
  have h1 := hg.q1
  simp only [inB, Bool.and_eq_true, decide_eq_true_eq]
  omega
theorem trim_tidy {xs : List Int} (h : tidyL xs) : trim xs = xs := by
  rcases h with h | h
  · rw [h]; rfl
  · have hn : trimN xs xs.length = xs.length := by
      cases hl : xs.length with
      | zero => rfl
      | succ n =>
        have e : xs.getD n 0 = xs.getLastD 0 := by
          rw [List.getLastD_eq_getLast?, List.getLast?_eq_getElem?, List.getD_eq_getElem?_getD, hl]
          rfl
        unfold trimN
        rw [if_neg (by rw [e]; exact h)]
    unfold trim
    rw [hn, List.take_length]
theorem trim_push {s : Int} {xs : List Int} (h : tidyL xs) : trim (s :: xs) = pushL s xs := by
  by_cases hn : s = 0 ∧ xs = []
  · obtain ⟨rfl, rfl⟩ := hn
    rfl
  · have e : pushL s xs = s :: xs := if_neg hn
    have ht := tidy_push (s := s) h
    rw [e] at ht ⊢
    exact trim_tidy ht
/-- The reference's words on a configuration. -/
def cR (c : ConfD) : ConfR := ⟨c.q, c.l, c.r⟩
theorem stepC_eq {ru : RuleD} {c : ConfD} (h : tidyL c.l ∧ tidyL c.r) : stepC ru (cR c) = cR (stepI ru c) := by
  have h1 := trim_push (s := ru.w) h.1
  have h2 := trim_push (s := ru.w) (tidy_drop h.2)
  have h3 := trim_push (s := hdD c.l) (tidy_push (s := ru.w) (tidy_drop h.2))
  unfold stepC stepI
  simp only [cR, hdR]
  simp only [hdD] at h3 ⊢
  rw [h1, h2, h3]
  split <;> rfl
end Go.Proofs.YtkbpchdncljlbaaGreatDoor
end
section
set_option linter.unusedSimpArgs false
set_option linter.unusedVariables false
namespace Go.Proofs.YtkbpchdncljlbaaGreatDoor
open Go Go.RowKit Go.Proofs
set_option maxHeartbeats 400000
theorem hdD_rev (xs : List Int) (h : xs.length ≠ 0) : xs.reverse[xs.reverse.length - 1]? = some (hdD xs) := by
  cases xs with
  | nil => simp at h
  | cons a l =>
    simp [hdD]
theorem rev_drop1 (xs : List Int) : (xs.drop 1).reverse = xs.reverse.take (xs.length - 1) := by
  cases xs with
  | nil => rfl
  | cons a l => simp
theorem rev_push (s : Int) (xs : List Int) (h : ¬ (s = 0 ∧ xs = [])) : (pushL s xs).reverse = xs.reverse ++ [s] := by
  unfold pushL
  rw [if_neg h, List.reverse_cons]
/-- Only the block of a slice, and new ones, are touched. -/
structure Pushed (w w' : World) (v u : Value) : Prop where
  os : w'.os = w.os
  tape : w'.tape = w.tape
  output : w'.output = w.output
  size : w.heap.size ≤ w'.heap.size
  same : ∀ k, k < w.heap.size → v.ownBlock ≠ some k → w'.heap[k]? = w.heap[k]?
  new : ∀ g, u.ownBlock = some g → v.ownBlock = some g ∨ w.heap.size ≤ g
end Go.Proofs.YtkbpchdncljlbaaGreatDoor
end
