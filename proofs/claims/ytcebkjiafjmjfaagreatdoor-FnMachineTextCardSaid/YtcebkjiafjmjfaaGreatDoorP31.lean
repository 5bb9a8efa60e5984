/- The contract of the law's order of numbers: it is a permutation of the numbers below n.
Plain: a permutation of the numbers below n is an order; so is the list 0, n-1, .., 1. -/
import Derived.Test.YtcebkjiafjmjfaaGreatDoorP30
section
set_option linter.unusedSimpArgs false
set_option linter.unusedVariables false
namespace Go.Proofs.YtcebkjiafjmjfaaGreatDoor
open Go Go.RowKit Go.Proofs
set_option maxHeartbeats 400000
structure OrdSt (w : World) (b gu n cu d : Nat) (zs : List Int) (W : World) : Prop where
  ext : Ext w W
  src : Src w.heap.size W b d
  own : W.ownsRow w.heap.size 2 1 (.slice (some ⟨gu, 0, none⟩) n cu) n (ivs zs)
  perm : List.Perm zs (upL n)
theorem OrdSt.len {w : World} {b gu n cu d : Nat} {zs : List Int} {W : World} (h : OrdSt w b gu n cu d zs W) : zs.length = n := by rw [h.perm.length_eq, upL_len]
theorem OrdSt.pick {w : World} {b gu n cu d d' : Nat} {zs : List Int} {W W' : World} (h : OrdSt w b gu n cu d zs W) (hb : w.heap.size ≤ b) (hne : gu ≠ b) (hs : Src w.heap.size W' b d') (hg : W.grownBy W' (some b)) : OrdSt w b gu n cu d' zs W' :=
  ⟨h.ext.grown hg (fun k hk => by injection hk with hk; omega), hs, World.ownsRow.kept h.own hg (.inr (by simpa [Value.ownBlock] using hne)), h.perm⟩
theorem OrdSt.swap {w : World} {b gu n cu d : Nat} {zs : List Int} {W : World} (h : OrdSt w b gu n cu d zs W) (hgu : w.heap.size ≤ gu) (hne : gu ≠ b) (i j : Nat) (hi : i < zs.length) (hj : j < zs.length) :
    OrdSt w b gu n cu d ((zs.set i zs[j]).set j zs[i]) ((W.setCell ⟨gu, i, none⟩ (.int .i64 zs[j])).setCell ⟨gu, j, none⟩ (.int .i64 zs[i])) := by
  refine ⟨(h.ext.setCell hgu _).setCell hgu _, (h.src.kept (set_grownBy _ _ _) (fun k hk => by injection hk with hk; subst hk; exact ⟨hgu, hne⟩)).kept (set_grownBy _ _ _) (fun k hk => by injection hk with hk; subst hk; exact ⟨hgu, hne⟩), ?_, (List.set_set_perm hi hj).trans h.perm⟩
  rw [ivs_set, ivs_set]
  exact (World.ownsRow.stored (World.ownsRow.stored h.own i (.int .i64 zs[j])).1 j (.int .i64 zs[i])).1
end Go.Proofs.YtcebkjiafjmjfaaGreatDoor
end
section
set_option linter.unusedSimpArgs false
set_option linter.unusedVariables false
namespace Go.Proofs.YtcebkjiafjmjfaaGreatDoor
open Go Go.RowKit Go.Proofs
theorem sorted_perm : ∀ {xs ys : List Int}, xs.Perm ys → xs.Pairwise (· ≤ ·) → ys.Pairwise (· ≤ ·) → xs = ys
  | [], ys, h, _, _ => (List.Perm.nil_eq h)
  | x :: xs, [], h, _, _ => absurd h.length_eq (by simp)
  | x :: xs, y :: ys, h, hx, hy => by
    have hx' := List.pairwise_cons.1 hx
    have hy' := List.pairwise_cons.1 hy
    have e : x = y := by
      have h1 : x ∈ y :: ys := h.mem_iff.1 List.mem_cons_self
      have h2 : y ∈ x :: xs := h.mem_iff.2 List.mem_cons_self
      rcases List.mem_cons.1 h1 with h1 | h1
      · exact h1
      · rcases List.mem_cons.1 h2 with h2 | h2
        · exact h2.symm
        · have a := hy'.1 _ h1
          have b := hx'.1 _ h2
          omega
    subst e
    rw [sorted_perm (List.Perm.cons_inv h) hx'.2 hy'.2]
theorem upL_sorted (n : Nat) : (upL n).Pairwise (· ≤ ·) := by
  induction n with
  | zero => simp [upL]
  | succ n ih =>
    rw [upL_succ, List.pairwise_append]
    refine ⟨ih, by simp, fun a ha b hb => ?_⟩
    simp only [upL, List.mem_map, List.mem_range] at ha
    obtain ⟨k, hk, rfl⟩ := ha
    simp only [List.mem_singleton] at hb
    omega
theorem isOrd_of_perm {zs : List Int} {n : Nat} (h : zs.Perm (upL n)) : isOrd zs n = true := by
  have hl : zs.length = n := by rw [h.length_eq, upL_len]
  have hs : (sortL zs).Pairwise (· ≤ ·) := by
    have := List.pairwise_mergeSort (le := fun x y : Int => decide (x ≤ y)) (by intro a b c; simp only [decide_eq_true_eq]; omega) (by intro a b; simp only [Bool.or_eq_true, decide_eq_true_eq]; omega) zs
    exact this.imp (by intro a b h; simpa using h)
  have e : sortL zs = upL n := sorted_perm ((List.mergeSort_perm zs _).trans h) hs (upL_sorted n)
  simp [isOrd, hl, e]
/-- The law's order of the symbols. -/
def downL : Nat → List Int
  | 0 => []
  | k + 1 => ((k + 1 : Nat) : Int) :: downL k
theorem downL_perm (k : Nat) : (0 :: downL k).Perm (upL (k + 1)) := by
  induction k with
  | zero => exact List.Perm.refl _
  | succ k ih =>
    rw [upL_succ]
    show (0 :: ((k + 1 : Nat) : Int) :: downL k).Perm _
    refine (List.Perm.swap _ _ _).trans ?_
    refine (List.Perm.cons _ ih).trans ?_
    exact (List.perm_append_singleton _ _).symm
theorem down_ord (k : Nat) : isOrd (0 :: downL k) ((k + 1 : Nat) : Int) = true := isOrd_of_perm (downL_perm k)
end Go.Proofs.YtcebkjiafjmjfaaGreatDoor
end
