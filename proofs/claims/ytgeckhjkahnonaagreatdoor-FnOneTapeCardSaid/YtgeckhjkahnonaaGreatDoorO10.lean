/- Machines that are built by places, in plain words. No program stands here but the rules' own structure. -/
import Derived.Test.YtgeckhjkahnonaaGreatDoorO02
section
namespace Go.Proofs.YtgeckhjkahnonaaGreatDoor
open Go Go.RowKit Go.Proofs
/-- What is done at a place. -/
structure ActG (α : Type) where
  w : Int
  m : Int
  p : α
  no : Bool
section
variable {α : Type} [DecidableEq α]
def addP (ps : List α) (x : α) : List α := if x ∈ ps then ps else ps ++ [x]
def numOf (ps : List α) (x : α) : Option Int := if x ∈ ps then some (ps.idxOf x : Nat) else none
theorem numOf_nil : numOf ([] : List α) = fun _ => none := by funext x; simp [numOf]
theorem numOf_snoc {ps : List α} {x : α} (h : x ∉ ps) : numOf (ps ++ [x]) = fun y => if y = x then some (ps.length : Int) else numOf ps y := by
  funext y
  unfold numOf
  by_cases e : y = x
  · subst e
    simp [List.idxOf_append, h]
  · by_cases h' : y ∈ ps
    · simp [e, h', List.idxOf_append]
    · simp [e, h']
theorem addP_old {ps : List α} {x : α} (h : x ∈ ps) : addP ps x = ps := if_pos h
theorem addP_new {ps : List α} {x : α} (h : x ∉ ps) : addP ps x = ps ++ [x] := if_neg h
theorem idx_old {ps : List α} {x : α} (h : x ∈ ps) : (numOf ps x).getD 0 = (ps.idxOf x : Nat) := by simp [numOf, h]
theorem idx_new {ps : List α} {x : α} (h : x ∉ ps) : (addP ps x).idxOf x = ps.length := by rw [addP_new h]; simp [List.idxOf_append, h]
theorem addP_length (ps : List α) (x : α) : ps.length ≤ (addP ps x).length ∧ (addP ps x).length ≤ ps.length + 1 := by unfold addP; split <;> simp
theorem addP_mem (ps : List α) (x : α) : x ∈ addP ps x := by unfold addP; split <;> simp_all
theorem addP_prefix (ps : List α) (x : α) : ps <+: addP ps x := by unfold addP; split <;> simp
theorem addP_all {ps : List α} {x : α} {Q : α → Prop} (h : ∀ y ∈ ps, Q y) (hx : Q x) : ∀ y ∈ addP ps x, Q y := by
  unfold addP
  split
  · exact h
  · intro y hy
    rcases List.mem_append.1 hy with h' | h'
    · exact h y h'
    · simp at h'; subst h'; exact hx
/-- One symbol at a place. -/
def symStep (act : α → Int → ActG α) (p : α) (s : List α × List RuleD) (v : Int) : List α × List RuleD :=
  if (act p v).no then (s.1, s.2 ++ [noR]) else (addP s.1 (act p v).p, s.2 ++ [⟨(act p v).w, (act p v).m, ((addP s.1 (act p v).p).idxOf (act p v).p : Nat)⟩])
/-- The first n symbols at a place. -/
def rowTo (act : α → Int → ActG α) (p : α) (s : List α × List RuleD) : Nat → List α × List RuleD
  | 0 => s
  | n + 1 => symStep act p (rowTo act p s n) n
theorem symStep_no {act : α → Int → ActG α} {p : α} {s : List α × List RuleD} {v : Int} (h : (act p v).no = true) : symStep act p s v = (s.1, s.2 ++ [noR]) := by simp [symStep, h]
theorem symStep_yes {act : α → Int → ActG α} {p : α} {s : List α × List RuleD} {v : Int} (h : (act p v).no = false) : symStep act p s v = (addP s.1 (act p v).p, s.2 ++ [⟨(act p v).w, (act p v).m, ((addP s.1 (act p v).p).idxOf (act p v).p : Nat)⟩]) := by simp [symStep, h]
theorem symStep_length (act : α → Int → ActG α) (p : α) (s : List α × List RuleD) (v : Int) : s.1.length ≤ (symStep act p s v).1.length ∧ (symStep act p s v).1.length ≤ s.1.length + 1 ∧ (symStep act p s v).2.length = s.2.length + 1 := by
  unfold symStep
  have := addP_length s.1 (act p v).p
  split <;> simp <;> omega
theorem rowTo_length (act : α → Int → ActG α) (p : α) (s : List α × List RuleD) (n : Nat) : s.1.length ≤ (rowTo act p s n).1.length ∧ (rowTo act p s n).1.length ≤ s.1.length + n ∧ (rowTo act p s n).2.length = s.2.length + n := by
  induction n with
  | zero => simp [rowTo]
  | succ n ih =>
    have := symStep_length act p (rowTo act p s n) n
    simp only [rowTo]
    omega
theorem symStep_prefix (act : α → Int → ActG α) (p : α) (s : List α × List RuleD) (v : Int) : s.1 <+: (symStep act p s v).1 := by
  unfold symStep
  split
  · exact List.prefix_rfl
  · exact addP_prefix _ _
theorem rowTo_prefix (act : α → Int → ActG α) (p : α) (s : List α × List RuleD) (n : Nat) : s.1 <+: (rowTo act p s n).1 := by
  induction n with
  | zero => exact List.prefix_rfl
  | succ n ih => exact ih.trans (symStep_prefix _ _ _ _)
theorem rowTo_all {act : α → Int → ActG α} {p : α} {s : List α × List RuleD} {Q : α → Prop} {N : Nat} (hs : ∀ y ∈ s.1, Q y) (ha : ∀ n : Nat, n < N → (act p n).no = false → Q (act p n).p) (n : Nat) (hn : n ≤ N) : ∀ y ∈ (rowTo act p s n).1, Q y := by
  induction n with
  | zero => exact hs
  | succ n ih =>
    have h := ih (by omega)
    cases e : (act p n).no with
    | true => simp only [rowTo]; rw [symStep_no e]; exact h
    | false => simp only [rowTo]; rw [symStep_yes e]; exact addP_all h (ha n (by omega) e)
/-- The machine that is built; none if it has too many states. -/
def bldF (act : α → Int → ActG α) (d : α) (sy : Nat) : Nat → Nat → List α × List RuleD → Option (List α × List RuleD)
  | 0, _, _ => none
  | f + 1, k, s => if k < s.1.length then (if 1000 < (rowTo act (s.1.getD k d) s sy).1.length then none else bldF act d sy f (k + 1) (rowTo act (s.1.getD k d) s sy)) else some s
def bld (act : α → Int → ActG α) (d : α) (sy : Nat) : Option (List α × List RuleD) := bldF act d sy 1002 0 ([d], [])
/-- How the building stands behind k places. -/
structure BldAt (act : α → Int → ActG α) (d : α) (sy : Nat) (k : Nat) (s : List α × List RuleD) : Prop where
  to : bldF act d sy (1002 - k) k s = bld act d sy
  le : k ≤ s.1.length
  most : s.1.length ≤ 1000
  one : 1 ≤ s.1.length
  rules : s.2.length = k * sy
theorem BldAt.start (act : α → Int → ActG α) (d : α) (sy : Nat) : BldAt act d sy 0 ([d], []) := ⟨rfl, Nat.zero_le _, by simp, by simp, by simp⟩
theorem BldAt.step {act : α → Int → ActG α} {d : α} {sy k : Nat} {s : List α × List RuleD} (h : BldAt act d sy k s) (hk : k < s.1.length) {p : α} (hp : s.1[k]? = some p) (hn : (rowTo act p s sy).1.length ≤ 1000) : BldAt act d sy (k + 1) (rowTo act p s sy) := by
  have hl := rowTo_length act p s sy
  have h2 := h.most
  have h3 := h.one
  have h4 := h.rules
  refine ⟨?_, by omega, hn, by omega, by rw [hl.2.2, h4, Nat.succ_mul]⟩
  rw [← h.to]
  obtain ⟨f, hf⟩ : ∃ f, 1002 - k = f + 1 := ⟨1001 - k, by omega⟩
  have hf' : 1002 - (k + 1) = f := by omega
  rw [hf, hf']
  have e : s.1.getD k d = p := by rw [List.getD_eq_getElem?_getD, hp]; rfl
  simp only [bldF, e]
  rw [if_pos hk, if_neg (by omega)]
theorem BldAt.fails {act : α → Int → ActG α} {d : α} {sy k : Nat} {s : List α × List RuleD} (h : BldAt act d sy k s) (hk : k < s.1.length) {p : α} (hp : s.1[k]? = some p) (hn : 1000 < (rowTo act p s sy).1.length) : bld act d sy = none := by
  have h2 := h.most
  rw [← h.to]
  obtain ⟨f, hf⟩ : ∃ f, 1002 - k = f + 1 := ⟨1001 - k, by omega⟩
  rw [hf]
  have e : s.1.getD k d = p := by rw [List.getD_eq_getElem?_getD, hp]; rfl
  simp only [bldF, e]
  rw [if_pos hk, if_pos hn]
theorem BldAt.ends {act : α → Int → ActG α} {d : α} {sy k : Nat} {s : List α × List RuleD} (h : BldAt act d sy k s) (hk : ¬ k < s.1.length) : bld act d sy = some s := by
  have h2 := h.most
  have h3 := h.le
  rw [← h.to]
  obtain ⟨f, hf⟩ : ∃ f, 1002 - k = f + 1 := ⟨1001 - k, by omega⟩
  rw [hf]
  simp only [bldF]
  rw [if_neg hk]
end
end Go.Proofs.YtgeckhjkahnonaaGreatDoor
end
