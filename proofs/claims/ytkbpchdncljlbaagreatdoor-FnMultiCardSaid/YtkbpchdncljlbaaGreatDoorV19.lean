/- What the tests of a folded tape's form come to, in plain words.
Contracts of the program's decoding of a configuration of the machine on one half of the tape.
Contract of the program's joined lists, of two lists. -/
import Derived.Test.YtkbpchdncljlbaaGreatDoorV14
import Derived.Test.YtkbpchdncljlbaaGreatDoorV11
import Derived.Test.YtkbpchdncljlbaaGreatDoorV18
import Derived.Test.YtkbpchdncljlbaaGreatDoorV12
section
namespace Go.Proofs.YtkbpchdncljlbaaGreatDoor
open Go Go.RowKit Go.Proofs
def cellsD (c : ConfD) : List Int := c.l.reverse ++ c.r
theorem cells_cons {c : ConfD} (h : 1 ≤ c.l.length) : cellsD c = c.l.getLastD 0 :: backD c := by
  have hne : c.l ≠ [] := fun e => by rw [e] at h; simp at h
  have e1 : c.l = c.l.dropLast ++ [c.l.getLast hne] := (List.dropLast_concat_getLast hne).symm
  have e2 : c.l.getLastD 0 = c.l.getLast hne := by rw [List.getLastD_eq_getLast?, List.getLast?_eq_some_getLast hne]; rfl
  unfold cellsD backD
  rw [e2]
  conv => lhs; rw [e1]
  simp
theorem cells_drop {c : ConfD} (h : 1 ≤ c.l.length) : (cellsD c).drop 1 = backD c := by rw [cells_cons h]; rfl
theorem back_mem {c : ConfD} {z : Int} : z ∈ backD c ↔ z ∈ c.l.dropLast ∨ z ∈ c.r := by simp [backD]
theorem index_zero {c : ConfD} {sy : Int} (h : 1 ≤ c.l.length) : indexN (cellsD c) sy = 0 ↔ c.l.getLastD 0 = sy := by
  rw [cells_cons h]
  generalize c.l.getLastD 0 = a
  generalize backD c = ys
  unfold indexN
  by_cases he : a = sy
  · subst he; simp
  · constructor
    · intro hi
      by_cases hm : sy ∈ a :: ys
      · have hb : (a == sy) = false := by simp [he]
        rw [if_pos hm, List.idxOf_cons, hb] at hi
        simp only [cond_false] at hi
        omega
      · rw [if_neg hm] at hi; omega
    · intro e; exact absurd e he
theorem fmt_iff (sy : Int) (c : ConfD) (half : Int) : fmtB sy c half = true ↔ (1 ≤ c.l.length ∧ c.l.getLastD 0 = sy ∧ ¬ sy ∈ c.l.dropLast ∧ ¬ sy ∈ c.r ∧ ¬ (c.l.length : Int) % 2 = half) := by
  unfold fmtB
  simp [and_assoc]
theorem fmt_iff2 (sy : Int) (c : ConfD) (half : Int) : fmtB sy c half = true ↔ (1 ≤ c.l.length ∧ indexN (cellsD c) sy = 0 ∧ ¬ sy ∈ (cellsD c).drop 1 ∧ ¬ (c.l.length : Int) % 2 = half) := by
  rw [fmt_iff]
  constructor
  · rintro ⟨h1, h2, h3, h4, h5⟩
    refine ⟨h1, (index_zero h1).2 h2, ?_, h5⟩
    rw [cells_drop h1, back_mem]
    exact fun h => h.elim h3 h4
  · rintro ⟨h1, h2, h3, h5⟩
    rw [cells_drop h1, back_mem] at h3
    exact ⟨h1, (index_zero h1).1 h2, fun h => h3 (.inl h), fun h => h3 (.inr h), h5⟩
theorem side_all {xs : List Int} {sy : Int} (h : sideOk xs sy 200 = true) : xs.length ≤ 200 ∧ ∀ z ∈ xs, 0 ≤ z ∧ z ≤ sy - 1 := by
  simp only [sideOk, Bool.and_eq_true, decide_eq_true_eq, List.all_eq_true, inB] at h
  exact ⟨by omega, fun z hz => h.1.2 z hz⟩
theorem conf_all {sy st : Int} {rs : List RuleD} {c : ConfD} (h : confB ⟨sy, st, rs⟩ c = true) : (0 ≤ c.q ∧ c.q < st) ∧ (c.l.length ≤ 200 ∧ ∀ z ∈ c.l, 0 ≤ z ∧ z ≤ sy - 1) ∧ (c.r.length ≤ 200 ∧ ∀ z ∈ c.r, 0 ≤ z ∧ z ≤ sy - 1) := by
  simp only [confB, Bool.and_eq_true, inB, decide_eq_true_eq] at h
  exact ⟨by omega, side_all h.1.2, side_all h.2⟩
theorem back_in {sy : Int} {c : ConfD} {half : Int} (h1 : ∀ z ∈ c.l, 0 ≤ z ∧ z ≤ sy) (h2 : ∀ z ∈ c.r, 0 ≤ z ∧ z ≤ sy) (hf : fmtB sy c half = true) : ∀ z ∈ backD c, inB z 0 (sy - 1) = true := by
  obtain ⟨_, _, f3, f4, _⟩ := (fmt_iff _ _ _).1 hf
  intro z hz
  rcases back_mem.1 hz with hz | hz
  · have a := h1 z (List.dropLast_subset _ hz)
    have : z ≠ sy := fun e => f3 (e ▸ hz)
    simp [inB]; omega
  · have a := h2 z hz
    have : z ≠ sy := fun e => f4 (e ▸ hz)
    simp [inB]; omega
theorem cells_len (c : ConfD) : (cellsD c).length = c.l.length + c.r.length := by simp [cellsD]
theorem back_len {c : ConfD} (h : 1 ≤ c.l.length) : (backD c).length + 1 = c.l.length + c.r.length := by simp [backD]; omega
/-- What the decoding of a folded configuration gives. -/
def decAll (m : MachD) (c : ConfD) : ConfD × Int :=
  if machOk m then
    match foldOf m with
    | none => (blankC, 5)
    | some s => if confB ⟨m.sy + 1, s.1.length, s.2⟩ c then decP m.sy (s.1.getD c.q.toNat ⟨0, 0, 0⟩) c else (blankC, 2)
  else (blankC, 1)
/-- The state, the half, and whether there are some. -/
def stF (sy : Int) (p : FP) (c : ConfD) : Int × Int × Bool :=
  if p.k = 0 then (p.q, p.h, true) else if p.k = 5 ∧ c.r.getD 0 0 ≠ sy then (p.q, 1, true) else (0, 0, false)
theorem decP_alt (sy : Int) (p : FP) (c : ConfD) : decP sy p c = if (stF sy p c).2.2 then (if fmtB sy c (stF sy p c).2.1 then unfD (stF sy p c).1 (backD c) c.l.length else (blankC, 9)) else (blankC, 6) := by
  unfold decP stF
  by_cases h0 : p.k = 0
  · rw [if_pos (.inl h0), if_pos h0, if_pos h0]; rfl
  · by_cases h5 : p.k = 5 ∧ c.r.getD 0 0 ≠ sy
    · rw [if_pos (.inr h5), if_neg h0, if_neg h0, if_pos h5]; rfl
    · rw [if_neg (fun h => h.elim h0 h5), if_neg h0, if_neg h5]; rfl
theorem unfD_alt {m : MachD} {q : Int} {D : List Int} {k : Nat} (hq : inB q 0 (m.st - 1) = true) (h : ∀ z ∈ D, inB z 0 (m.sy - 1) = true) (hs : 1 ≤ m.sy) :
    unfD q D k = if confB m ⟨q, unfL D (plZ k), unfR D (plZ k)⟩ then (⟨q, unfL D (plZ k), unfR D (plZ k)⟩, 0) else (blankC, 5) := by
  unfold unfD
  rw [unf_conf hq h hs]
end Go.Proofs.YtkbpchdncljlbaaGreatDoor
end
section
set_option linter.unusedSimpArgs false
set_option linter.unusedVariables false
namespace Go.Proofs.YtkbpchdncljlbaaGreatDoor
open Go Go.RowKit Go.Proofs Go.Maps
set_option maxHeartbeats 400000
end Go.Proofs.YtkbpchdncljlbaaGreatDoor
end
section
set_option linter.unusedSimpArgs false
set_option linter.unusedVariables false
namespace Go.Proofs.YtkbpchdncljlbaaGreatDoor
open Go Go.RowKit Go.Proofs
set_option maxHeartbeats 400000
theorem row_blk {w : World} {g n : Nat} {t : TypeId} {cs : List Value} (h : Blk w g t cs.toArray) (hl : cs.length = n) (hn : n ≤ 1000000) : Row w 1 (.slice (some ⟨g, 0, none⟩) n n) n cs := by
  subst hl
  refine ⟨_, _, rfl, Nat.le_refl _, by omega, by simp, fun _ => ⟨g, 0, rfl, fun j hj => ?_⟩⟩
  rw [Nat.zero_add, h.cell j]
  simp
theorem joinedA_c (A B : Option Addr) (ca cb : Nat) (xs ys : List Int) (w : World) (h1 : Ints w (.slice A xs.length ca) xs) (h2 : Ints w (.slice B ys.length cb) ys) (f1 : Flat (.slice A xs.length ca)) (f2 : Flat (.slice B ys.length cb)) (hn : xs.length + ys.length ≤ 1048576) :
    Calls Tryz.prog 106 #[.slice (some ⟨w.heap.size, 0, none⟩) 2 2] (w.alloc (.cells #[.slice A xs.length ca, .slice B ys.length cb] 48)) fun e w' => ∃ u, e = .returned u ∧ OwnInts w.heap.size w' u (xs ++ ys) ∧ Ext (w.alloc (.cells #[.slice A xs.length ca, .slice B ys.length cb] 48)) w' := by
  have hx := Ext.alloc w (.cells #[.slice A xs.length ca, .slice B ys.length cb] 48)
  have hb : Blk (w.alloc (.cells #[.slice A xs.length ca, .slice B ys.length cb] 48)) w.heap.size 48 ([.slice A xs.length ca, .slice B ys.length cb] : List Value).toArray := Blk.new _ _ _ _ rfl
  refine (joined_c _ [xs, ys] [.slice A xs.length ca, .slice B ys.length cb] _ (row_blk hb rfl (by simp)) ?_ (by simp) (by simp [tot]; omega)).mono ?_
  · intro i hi
    match i, hi with
    | 0, _ => exact ⟨_, rfl, h1.ext hx, f1⟩
    | 1, _ => exact ⟨_, rfl, h2.ext hx, f2⟩
  · rintro e w' ⟨u, rfl, ho, he⟩
    have e : [xs, ys].flatten = xs ++ ys := by simp
    rw [e] at ho
    exact ⟨u, rfl, ownsRow_base ho (by simp), he⟩
theorem joined2_c (A B : Option Addr) (ca cb : Nat) (xs ys : List Int) (w : World) (h1 : Ints w (.slice A xs.length ca) xs) (h2 : Ints w (.slice B ys.length cb) ys) (f1 : Flat (.slice A xs.length ca)) (f2 : Flat (.slice B ys.length cb)) (hn : xs.length + ys.length ≤ 1048576) :
    Calls Tryz.prog 106 #[.slice (some ⟨w.heap.size, 0, none⟩) 2 2] (w.alloc (.cells #[.slice A xs.length ca, .slice B ys.length cb] 48)) fun e w' => ∃ u, e = .returned u ∧ OwnInts w.heap.size w' u (xs ++ ys) ∧ Ext w w' := by
  refine (joinedA_c A B ca cb xs ys w h1 h2 f1 f2 hn).mono ?_
  rintro e w' ⟨u, rfl, ho, he⟩
  exact ⟨u, rfl, ho, (Ext.alloc w _).trans he⟩
end Go.Proofs.YtkbpchdncljlbaaGreatDoor
end
