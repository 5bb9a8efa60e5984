/- Plain words on the search for nodes: every node is valid, the two tests on a node that may begin agree, the starts are distinct. No program stands here.
Contract of the reference's node before a node. The machine is valid, the node is valid. -/
import Derived.Test.YtacpchapgklcgaaGreatDoorQ12
section
namespace Go.Proofs.YtacpchapgklcgaaGreatDoor
open Go Go.RowKit Go.Proofs
structure MOk (m : MachD) : Prop where
  sy1 : 2 ≤ m.sy
  sy2 : m.sy ≤ 6
  st1 : 1 ≤ m.st
  st2 : m.st ≤ 1000
  len : (m.rules.length : Int) = m.sy * m.st
  len2 : m.rules.length ≤ 6000
  mv : ∀ r ∈ m.rules, ¬ r = noR → -1 ≤ r.m ∧ r.m ≤ 1
theorem MOk.of {m : MachD} (h : machOk m = true) : MOk m := by
  simp only [machOk, inB, Bool.and_eq_true, decide_eq_true_eq, List.all_eq_true] at h
  obtain ⟨⟨⟨⟨a1, a2⟩, b1, b2⟩, c⟩, d⟩ := h
  have := mul_bounds a1 a2 b1 b2
  refine ⟨a1, a2, b1, b2, c, by omega, fun r hr hn => ?_⟩
  have := d r hr
  simp only [ruleOk, hn, decide_false, Bool.false_or, Bool.and_eq_true, Bool.or_eq_true, beq_iff_eq] at this
  omega
theorem MOk.quo {m : MachD} (h : MOk m) {k : Int} (h0 : 0 ≤ k) (hk : k < m.rules.length) : (0 ≤ k / m.sy ∧ k / m.sy < m.st) ∧ 0 ≤ k % m.sy ∧ k % m.sy < m.sy := by
  have h1 := h.sy1
  refine ⟨⟨Int.ediv_nonneg h0 (by omega), ?_⟩, Int.emod_nonneg _ (by omega), Int.emod_lt_of_pos _ (by omega)⟩
  exact Int.ediv_lt_of_lt_mul (by omega) (by have := h.len; rw [Int.mul_comm]; omega)
theorem NodeOk.fits {m : MachD} (hm : MOk m) {n : Nat} (n1 : 1 ≤ n) (n2 : n ≤ 9) {x : List Int} (h : NodeOk m.sy m.st n x) : Fits x := by
  have := h.len
  refine ⟨by omega, by omega, fun z hz => ?_⟩
  obtain ⟨j, hj, rfl⟩ := List.getElem_of_mem hz
  have e : x.getD j 0 = x[j] := by rw [List.getD_eq_getElem?_getD, List.getElem?_eq_getElem hj]; rfl
  rw [← e]
  have a1 := hm.sy2
  have a2 := hm.st2
  have b1 := h.lo
  have b2 := h.hi
  match j, hj with
  | 0, _ => omega
  | 1, _ =>
    by_cases c : x.getD 0 0 < 0 ∨ x.getD 0 0 = n
    · have := h.out c; omega
    · have := h.ins c; omega
  | j + 2, hj => have := h.cells (j + 2) (by omega) (by omega); omega
theorem predsTo_ok {m : MachD} (hm : MOk m) {n : Nat} (n1 : 1 ≤ n) {x : List Int} (h : NodeOk m.sy m.st n x) (k : Nat) (hk : k ≤ m.rules.length) : ∀ y ∈ predsTo m x k, NodeOk m.sy m.st n y := by
  induction k with
  | zero => intro y hy; simp [predsTo] at hy
  | succ k ih =>
    have ih := ih (by omega)
    by_cases he : m.rules[k] = noR
    · rw [predsTo_no (by omega) he]; exact ih
    · rw [predsTo_yes (by omega) he]
      unfold addNew
      split
      · rename_i y hb
        have q := hm.quo (k := k) (by omega) (by omega)
        have hy := before_ok h n1 q.1 q.2 hb
        split
        · exact ih
        · intro z hz
          rcases List.mem_append.1 hz with c | c
          · exact ih z c
          · simp at c; subst c; exact hy
      · exact ih
theorem starts_ok {m : MachD} (hm : MOk m) {n : Nat} (n1 : 1 ≤ n) : ∀ x ∈ startsIn m n, NodeOk m.sy m.st n x := by
  intro x hx
  simp only [startsIn, startsOf, partsOf, List.mem_map] at hx
  obtain ⟨p, ⟨z, hz, rfl⟩, rfl⟩ := hx
  obtain ⟨j, hj, rfl⟩ := List.getElem_of_mem hz
  have hb := freeTo_get m.rules m.rules.length j hj
  generalize (freeTo m.rules m.rules.length)[j] = z at *
  have q := hm.quo hb.1 hb.2
  have hlen : (List.replicate (n + 2) (-1 : Int)).length = n + 2 := by simp
  refine ⟨by simp, ?_, ?_, ?_, ?_, ?_⟩
  · rw [getD_segNode_zero _ _ _ _ (by omega)]; omega
  · rw [getD_segNode_zero _ _ _ _ (by omega)]; omega
  · rw [getD_segNode_zero _ _ _ _ (by omega)]; intro hh; omega
  · rw [getD_segNode_one _ _ _ _ (by omega)]; intro _; exact q.1
  · intro j h2 h3
    rcases getD_segNode (List.replicate (n + 2) (-1 : Int)) ((n : Int) / 2) (z / m.sy) (z % m.sy) j h2 with e | e
    · simp only at e ⊢
      rw [e, List.getD_eq_getElem?_getD, List.getElem?_replicate, if_pos (by omega)]
      have := hm.sy1
      simp; omega
    · simp only at e ⊢
      rw [e]; omega
theorem addAll_all {p : List Int → Prop} {s : List (List Int) × Bool} {l : List (List Int)} (hs : ∀ y ∈ s.1, p y) (hl : ∀ y ∈ l, p y) : ∀ y ∈ (addAll s l).1, p y := by
  induction l generalizing s with
  | nil => exact hs
  | cons a l ih =>
    refine ih ?_ fun y hy => hl y (List.mem_cons_of_mem _ hy)
    unfold addOne
    split
    · exact hs
    · intro y hy
      rcases List.mem_append.1 hy with h | h
      · exact hs y h
      · simp at h; subst h; exact hl _ List.mem_cons_self
/-- One step of the search, and the search after k steps. -/
def stepS (m : MachD) (s : List (List Int) × Bool) (k : Nat) : List (List Int) × Bool := addAll s (predsTo m (s.1.getD k []) m.rules.length)
def iterS (m : MachD) (n : Nat) : Nat → List (List Int) × Bool
  | 0 => addAll ([], false) (startsIn m n)
  | k + 1 => stepS m (iterS m n k) k
theorem iterS_ok {m : MachD} (hm : MOk m) {n : Nat} (n1 : 1 ≤ n) (k : Nat) (hc : ∀ j < k, j < (iterS m n j).1.length) : ∀ x ∈ (iterS m n k).1, NodeOk m.sy m.st n x := by
  induction k with
  | zero => exact addAll_all (fun y hy => by simp at hy) (starts_ok hm n1)
  | succ k ih =>
    have ih := ih fun j hj => hc j (by omega)
    have hk := hc k (by omega)
    refine addAll_all ih (predsTo_ok hm n1 ?_ _ (Nat.le_refl _))
    rw [List.getD_eq_getElem?_getD, List.getElem?_eq_getElem hk]
    exact ih _ (List.getElem_mem hk)
/-- The search goes on. -/
def goesS (m : MachD) (n k : Nat) : Prop := k < (iterS m n k).1.length ∧ (iterS m n k).1.length ≤ 2000
/-- The search ends after k steps. -/
def EndsS (m : MachD) (n k : Nat) : Prop := (∀ j < k, goesS m n j) ∧ ¬ goesS m n k
theorem EndsS.unique {m : MachD} {n k k' : Nat} (h : EndsS m n k) (h' : EndsS m n k') : k = k' := by
  rcases Nat.lt_trichotomy k k' with c | c | c
  · exact absurd (h'.1 k c) h.2
  · exact c
  · exact absurd (h.1 k' c) h'.2
theorem mayS_eq {sy st : Int} {n : Nat} {x : List Int} (h : NodeOk sy st n x) : mayS x = mayB x := by
  unfold mayS mayB
  congr 1
  rw [Bool.eq_iff_iff]
  simp only [List.all_eq_true, decide_eq_true_eq, inB, Bool.and_eq_true]
  have key : ∀ z ∈ x.drop 2, -1 ≤ z := by
    intro z hz
    obtain ⟨j, hj, rfl⟩ := List.getElem_of_mem hz
    have hj' : j + 2 < x.length := by simp at hj; omega
    have := (h.cells (j + 2) (by omega) (by have := h.len; omega)).1
    rw [List.getD_eq_getElem?_getD, List.getElem?_eq_getElem hj'] at this
    simp only [Option.getD_some] at this
    simp only [List.getElem_drop]
    have e : x[2 + j]'(by omega) = x[j + 2] := by congr 1; omega
    rw [e]; exact this
  constructor
  · exact fun hh z hz => ⟨key z hz, hh z hz⟩
  · exact fun hh z hz => (hh z hz).2
/-- Distinct nodes are taken as they are. -/
theorem addAll_distinct : ∀ (l : List (List Int)) (s : List (List Int) × Bool), (∀ x ∈ l, x ∉ s.1) → l.Pairwise (· ≠ ·) → addAll s l = (s.1 ++ l, s.2 || l.any mayB)
  | [], s, _, _ => by simp [addAll]
  | a :: l, s, h1, h2 => by
    rw [List.pairwise_cons] at h2
    have e : addOne s a = (s.1 ++ [a], s.2 || mayB a) := by unfold addOne; rw [if_neg (h1 a List.mem_cons_self)]
    show addAll (addOne s a) l = _
    rw [addAll_distinct l _ ?_ h2.2, e]
    · simp [Bool.or_assoc]
    · intro x hx
      rw [e]
      simp only [List.mem_append, List.mem_singleton, not_or]
      exact ⟨h1 x (List.mem_cons_of_mem _ hx), fun he => h2.1 x hx he.symm⟩
theorem freeTo_distinct (rs : List RuleD) (k : Nat) : (freeTo rs k).Pairwise (· ≠ ·) := by
  unfold freeTo
  refine List.Pairwise.filterMap _ ?_ (List.nodup_range (n := k))
  intro a a' hne b hb b' hb'
  split at hb <;> simp at hb
  split at hb' <;> simp at hb'
  omega
theorem starts_distinct {m : MachD} (hm : MOk m) {n : Nat} (n1 : 1 ≤ n) : (startsIn m n).Pairwise (· ≠ ·) := by
  simp only [startsIn, startsOf, partsOf, List.map_map]
  have h1 := hm.sy1
  refine List.Pairwise.map _ ?_ (freeTo_distinct m.rules m.rules.length)
  intro a b hne he
  simp only [Function.comp] at he
  have hlen : (List.replicate (n + 2) (-1 : Int)).length = n + 2 := by simp
  have e1 := congrArg (fun l => List.getD l 1 0) he
  simp only [getD_segNode_one _ _ _ _ (show 3 ≤ (List.replicate (n + 2) (-1 : Int)).length by omega)] at e1
  have e2 := congrArg (fun l => List.getD l (2 + (n : Int) / 2).toNat 0) he
  have key : ∀ p a : Int, (segNode (List.replicate (n + 2) (-1)) ((n : Int) / 2) p a).getD (2 + (n : Int) / 2).toNat 0 = a := by
    intro p a
    unfold segNode
    rw [if_pos (by simp; omega), List.getD_eq_getElem?_getD, List.getElem?_set_self (by simp; omega)]
    rfl
  simp only [key] at e2
  apply hne
  have q1 := Int.mul_ediv_add_emod a m.sy
  have q2 := Int.mul_ediv_add_emod b m.sy
  rw [e1, e2] at q1
  omega
theorem iterS_zero {m : MachD} (hm : MOk m) {n : Nat} (n1 : 1 ≤ n) : iterS m n 0 = (startsIn m n, (startsIn m n).any mayB) := by
  show addAll ([], false) (startsIn m n) = _
  rw [addAll_distinct _ _ (fun x _ => by simp) (starts_distinct hm n1)]
  simp
end Go.Proofs.YtacpchapgklcgaaGreatDoor
end
section
namespace Go.Proofs.YtacpchapgklcgaaGreatDoor
open Go Go.RowKit Go.Proofs
set_option maxHeartbeats 400000
/-- The ways through the reference's test on a valid node, with what each comes to. -/
theorem backWays {sy st : Int} {n : Nat} {x : List Int} (h : NodeOk sy st n x) (hn : 1 ≤ n) (p a : Int) (r : RuleD) (x0 x1 H y : Int) (hm : -1 ≤ r.m) (hm' : r.m ≤ 1) (e0 : x.getD 0 0 = x0) (e1 : x.getD 1 0 = x1) (eH : x0 - r.m = H) (ey : x.getD (2 + H).toNat 0 = y) :
    ((x0 < 0 ∨ x0 = n) ∧ inB H 0 ((n : Int) - 1) = false ∧ before x p a r = none) ∨
    (¬ (x0 < 0 ∨ x0 = n) ∧ (r.n != x1) = true ∧ before x p a r = none) ∨
    ((((x0 < 0 ∨ x0 = n) ∧ inB H 0 ((n : Int) - 1) = true) ∨ (¬ (x0 < 0 ∨ x0 = n) ∧ (r.n != x1) = false)) ∧
      ((H < 0 ∧ before x p a r = some ((x.set 0 H).set 1 (-1))) ∨ (0 ≤ H ∧ H = n ∧ before x p a r = some ((x.set 0 H).set 1 (-1))) ∨
       (0 ≤ H ∧ H < n ∧ ((0 ≤ y ∧ (y != r.w) = true ∧ before x p a r = none) ∨ (0 ≤ y ∧ (y != r.w) = false ∧ before x p a r = some (((x.set 0 H).set 1 p).set (2 + H).toNat a)) ∨ (y < 0 ∧ before x p a r = some (((x.set 0 H).set 1 p).set (2 + H).toNat a)))))) := by
  have hl := h.len
  have b1 := h.lo
  have b2 := h.hi
  have b3 := h.out
  have b4 := h.ins
  have b5 := h.cells
  have en : (x.length : Int) - 2 = n := by omega
  unfold before
  rw [e0, e1] at *
  rw [eH, ey, en]
  have hseg1 : H < 0 ∨ H = n → segNode x H (-1) 0 = (x.set 0 H).set 1 (-1) := fun hh => by unfold segNode; rw [if_neg (by omega)]
  have hseg2 : 0 ≤ H → H < n → segNode x H p a = ((x.set 0 H).set 1 p).set (2 + H).toNat a := fun h1 h2 => by unfold segNode; rw [if_pos (by omega)]
  have hy : 0 ≤ H → H < n → -1 ≤ y := fun h1 h2 => by rw [← ey]; exact (b5 _ (by omega) (by omega)).1
  by_cases ho : x0 < 0 ∨ x0 = n
  · have hx1 := b3 ho
    by_cases hb : 0 ≤ H ∧ H ≤ (n : Int) - 1
    · right; right
      refine ⟨.inl ⟨ho, by simp [inB, hb]⟩, .inr (.inr ⟨by omega, by omega, ?_⟩)⟩
      have hy := hy (by omega) (by omega)
      rw [if_neg (by omega), if_neg (by omega), hseg2 (by omega) (by omega)]
      by_cases hy0 : 0 ≤ y
      · by_cases hyw : y = r.w
        · exact .inr (.inl ⟨hy0, by simp [hyw], by rw [if_pos (by omega)]⟩)
        · exact .inl ⟨hy0, by simp [hyw], by rw [if_neg (by omega)]⟩
      · exact .inr (.inr ⟨by omega, by rw [if_pos (by omega)]⟩)
    · left
      refine ⟨ho, ?_, ?_⟩
      · simp only [inB, Bool.and_eq_false_iff, decide_eq_false_iff_not]; omega
      · by_cases c : (0 ≤ x1 ∧ r.n ≠ x1) ∨ H < -1 ∨ (n : Int) < H
        · rw [if_pos c]
        · rw [if_neg c, if_pos (by omega), if_neg (by omega)]
  · have hx1 := b4 ho
    right
    by_cases hne : r.n = x1
    · right
      refine ⟨.inr ⟨ho, by simp [hne]⟩, ?_⟩
      rw [if_neg (by omega)]
      by_cases c : H < 0 ∨ H = n
      · rw [if_pos (by omega), if_pos (by omega), hseg1 c]
        rcases c with c | c
        · exact .inl ⟨c, rfl⟩
        · exact .inr (.inl ⟨by omega, c, rfl⟩)
      · rw [if_neg (by omega), hseg2 (by omega) (by omega)]
        have hy := hy (by omega) (by omega)
        refine .inr (.inr ⟨by omega, by omega, ?_⟩)
        by_cases hy0 : 0 ≤ y
        · by_cases hyw : y = r.w
          · exact .inr (.inl ⟨hy0, by simp [hyw], by rw [if_pos (by omega)]⟩)
          · exact .inl ⟨hy0, by simp [hyw], by rw [if_neg (by omega)]⟩
        · exact .inr (.inr ⟨by omega, by rw [if_pos (by omega)]⟩)
    · left
      exact ⟨ho, by simp [hne], by rw [if_pos (by omega)]⟩
/-- The node before a node by the rule with index k, if there is a rule. -/
def backOf (m : MachD) (x : List Int) (k : Nat) : Option (List Int) :=
  match m.rules[k]? with
  | some r => if r = noR then none else before x ((k : Int) / m.sy) ((k : Int) % m.sy) r
  | none => none
theorem backOf_no {m : MachD} {x : List Int} {k : Nat} (hk : k < m.rules.length) (h : m.rules[k] = noR) : backOf m x k = none := by simp [backOf, hk, h]
theorem backOf_yes {m : MachD} {x : List Int} {k : Nat} (hk : k < m.rules.length) (h : ¬ m.rules[k] = noR) : backOf m x k = before x ((k : Int) / m.sy) ((k : Int) % m.sy) m.rules[k] := by simp [backOf, hk, h]
theorem predsTo_back {m : MachD} {x : List Int} {k : Nat} (hk : k < m.rules.length) : predsTo m x (k + 1) = addNew (predsTo m x k) (backOf m x k) := by
  by_cases h : m.rules[k] = noR
  · rw [predsTo_no hk h, backOf_no hk h]; rfl
  · rw [predsTo_yes hk h, backOf_yes hk h]
end Go.Proofs.YtacpchapgklcgaaGreatDoor
end
