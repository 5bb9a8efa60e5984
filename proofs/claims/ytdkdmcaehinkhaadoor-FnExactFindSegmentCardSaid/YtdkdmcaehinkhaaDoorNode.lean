/- Plain words on nodes of segments: when a node is valid, and the node before it. No program stands here. -/
import Derived.Test.YtdkdmcaehinkhaaDoorRead2
namespace Go.Proofs.YtdkdmcaehinkhaaDoor
open Go Go.RowKit Go.Proofs
/-- A node of n cells is valid. -/
structure NodeOk (sy st : Int) (n : Nat) (x : List Int) : Prop where
  len : x.length = n + 2
  lo : -1 ≤ x.getD 0 0
  hi : x.getD 0 0 ≤ n
  out : (x.getD 0 0 < 0 ∨ x.getD 0 0 = n) → x.getD 1 0 = -1
  ins : ¬ (x.getD 0 0 < 0 ∨ x.getD 0 0 = n) → 0 ≤ x.getD 1 0 ∧ x.getD 1 0 < st
  cells : ∀ j, 2 ≤ j → j < n + 2 → -1 ≤ x.getD j 0 ∧ x.getD j 0 < sy
/-- The node before a node, by a rule r of a state p and a symbol a. -/
def before (x : List Int) (p a : Int) (r : RuleD) : Option (List Int) :=
  if (0 ≤ x.getD 1 0 ∧ r.n ≠ x.getD 1 0) ∨ x.getD 0 0 - r.m < -1 ∨ (x.length : Int) - 2 < x.getD 0 0 - r.m then none
  else if x.getD 0 0 - r.m = -1 ∨ x.getD 0 0 - r.m = (x.length : Int) - 2 then (if 0 ≤ x.getD 1 0 then some (segNode x (x.getD 0 0 - r.m) (-1) 0) else none)
  else if x.getD (2 + (x.getD 0 0 - r.m)).toNat 0 = r.w ∨ x.getD (2 + (x.getD 0 0 - r.m)).toNat 0 = -1 then some (segNode x (x.getD 0 0 - r.m) p a) else none
theorem getD_segNode_zero (x : List Int) (h p a : Int) (hl : 3 ≤ x.length) : (segNode x h p a).getD 0 0 = h := by
  unfold segNode
  split
  · rw [List.getD_eq_getElem?_getD, List.getElem?_set_ne (by omega), List.getElem?_set_ne (by omega), List.getElem?_set_self (by omega)]; rfl
  · rw [List.getD_eq_getElem?_getD, List.getElem?_set_ne (by omega), List.getElem?_set_self (by omega)]; rfl
theorem getD_segNode_one (x : List Int) (h p a : Int) (hl : 3 ≤ x.length) : (segNode x h p a).getD 1 0 = p := by
  unfold segNode
  split
  · rw [List.getD_eq_getElem?_getD, List.getElem?_set_ne (by omega), List.getElem?_set_self (by simp; omega)]; rfl
  · rw [List.getD_eq_getElem?_getD, List.getElem?_set_self (by simp; omega)]; rfl
theorem getD_segNode (x : List Int) (h p a : Int) (j : Nat) (hj : 2 ≤ j) : (segNode x h p a).getD j 0 = x.getD j 0 ∨ (segNode x h p a).getD j 0 = a := by
  unfold segNode
  split
  · by_cases e : (2 + h).toNat = j
    · by_cases hl : j < x.length
      · right; rw [e, List.getD_eq_getElem?_getD, List.getElem?_set_self (by simp; omega)]; rfl
      · left; simp only [List.getD_eq_getElem?_getD]; rw [List.getElem?_eq_none (by simp; omega), List.getElem?_eq_none (by omega)]
    · left; simp only [List.getD_eq_getElem?_getD]; rw [List.getElem?_set_ne e, List.getElem?_set_ne (by omega), List.getElem?_set_ne (by omega)]
  · left; simp only [List.getD_eq_getElem?_getD]; rw [List.getElem?_set_ne (by omega), List.getElem?_set_ne (by omega)]
/-- The node before a valid node is valid. -/
theorem before_ok {sy st : Int} {n : Nat} {x : List Int} {p a : Int} {r : RuleD} {y : List Int} (h : NodeOk sy st n x) (hn : 1 ≤ n) (hp : 0 ≤ p ∧ p < st) (ha : 0 ≤ a ∧ a < sy) (hy : before x p a r = some y) : NodeOk sy st n y := by
  have hl := h.len
  unfold before at hy
  split at hy
  · cases hy
  · rename_i h1
    simp only [not_or, Int.not_lt] at h1
    split at hy
    · rename_i h2
      split at hy
      · rename_i h3
        injection hy with hy
        subst hy
        refine ⟨by simp [hl], ?_, ?_, fun _ => getD_segNode_one _ _ _ _ (by omega), ?_, ?_⟩
        · rw [getD_segNode_zero _ _ _ _ (by omega)]; omega
        · rw [getD_segNode_zero _ _ _ _ (by omega)]; omega
        · rw [getD_segNode_zero _ _ _ _ (by omega)]; intro hh; exfalso; apply hh; omega
        · intro j h2 h3
          rcases getD_segNode x (x.getD 0 0 - r.m) (-1) 0 j h2 with e | e
          · rw [e]; exact h.cells j h2 h3
          · rw [e]; omega
      · cases hy
    · rename_i h2
      split at hy
      · injection hy with hy
        subst hy
        refine ⟨by simp [hl], ?_, ?_, ?_, ?_, ?_⟩
        · rw [getD_segNode_zero _ _ _ _ (by omega)]; omega
        · rw [getD_segNode_zero _ _ _ _ (by omega)]; omega
        · rw [getD_segNode_zero _ _ _ _ (by omega)]; intro hh; omega
        · rw [getD_segNode_one _ _ _ _ (by omega)]; intro _; exact hp
        · intro j h2 h3
          rcases getD_segNode x (x.getD 0 0 - r.m) p a j h2 with e | e
          · rw [e]; exact h.cells j h2 h3
          · rw [e]; omega
      · cases hy
/-- The ways through the program's test, with what each comes to. -/
theorem beforeWays (x : List Int) (p a : Int) (r : RuleD) (x0 x1 H N y : Int) (e0 : x.getD 0 0 = x0) (e1 : x.getD 1 0 = x1) (eH : x0 - r.m = H) (eN : (x.length : Int) - 2 = N) (ey : x.getD (2 + H).toNat 0 = y) :
    (0 ≤ x1 ∧ (r.n != x1) = true ∧ before x p a r = none) ∨
    (((0 ≤ x1 ∧ (r.n != x1) = false) ∨ x1 < 0) ∧ ((H < -1 ∧ before x p a r = none) ∨ (-1 ≤ H ∧ N < H ∧ before x p a r = none) ∨
      (H ≤ N ∧ (H == -1) = true ∧ before x p a r = if 0 ≤ x1 then some (segNode x H (-1) 0) else none) ∨
      (-1 ≤ H ∧ (H == -1) = false ∧ (H == N) = true ∧ before x p a r = if 0 ≤ x1 then some (segNode x H (-1) 0) else none) ∨
      (0 ≤ H ∧ H < N ∧ (H == -1) = false ∧ (H == N) = false ∧ (((y == r.w) = true ∧ before x p a r = some (segNode x H p a)) ∨ ((y == r.w) = false ∧ (y == -1) = true ∧ before x p a r = some (segNode x H p a)) ∨ ((y == r.w) = false ∧ (y == -1) = false ∧ before x p a r = none))))) := by
  unfold before
  rw [e0, e1, eH, eN, ey]
  by_cases c1 : 0 ≤ x1 ∧ r.n ≠ x1
  · exact .inl ⟨c1.1, by simp [c1.2], by rw [if_pos (.inl c1)]⟩
  · refine .inr ⟨?_, ?_⟩
    · by_cases c : 0 ≤ x1
      · exact .inl ⟨c, by simp; exact Classical.byContradiction fun hh => c1 ⟨c, hh⟩⟩
      · exact .inr (by omega)
    · by_cases c2 : H < -1
      · exact .inl ⟨c2, by rw [if_pos (.inr (.inl c2))]⟩
      · by_cases c3 : N < H
        · exact .inr (.inl ⟨by omega, c3, by rw [if_pos (.inr (.inr c3))]⟩)
        · have cc : ¬ ((0 ≤ x1 ∧ r.n ≠ x1) ∨ H < -1 ∨ N < H) := by
            rintro (h | h | h)
            · exact c1 h
            · exact c2 h
            · exact c3 h
          rw [if_neg cc]
          by_cases c4 : H = -1
          · exact .inr (.inr (.inl ⟨by omega, by simp [c4], by rw [if_pos (.inl c4)]⟩))
          · by_cases c5 : H = N
            · exact .inr (.inr (.inr (.inl ⟨by omega, by simp [c4], by simp [c5], by rw [if_pos (.inr c5)]⟩)))
            · have c6 : ¬ (H = -1 ∨ H = N) := by omega
              rw [if_neg c6]
              refine .inr (.inr (.inr (.inr ⟨by omega, by omega, by simp [c4], by simp [c5], ?_⟩)))
              by_cases d1 : y = r.w
              · exact .inl ⟨by simp [d1], by rw [if_pos (.inl d1)]⟩
              · by_cases d2 : y = -1
                · exact .inr (.inl ⟨by simp [d1], by simp [d2], by rw [if_pos (.inr d2)]⟩)
                · exact .inr (.inr ⟨by simp [d1], by simp [d2], by rw [if_neg (by rintro (h | h); exact d1 h; exact d2 h)]⟩)
end Go.Proofs.YtdkdmcaehinkhaaDoor
