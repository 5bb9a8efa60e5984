/- Contracts of the tests on lists of numbers, the program's and the reference's.
Contracts of the reference's test whether a node may begin, and of its copies.
Plain words on nodes of segments: when a node is valid, and the node before it. No program stands here.
Contracts of the reference's small parts of a run of a machine: copies, sides of the tape, the index of the rule.
Contracts of the reference's small parts of a run of a machine, continued.
Contracts of the program's tests on configurations and budgets. The machine is valid where its numbers are reckoned with. -/
import Derived.Test.YtfghojbbofobeaaGreatQ04
import Derived.Test.YtfghojbbofobeaaGreatQ03
section
namespace Go.Proofs.YtfghojbbofobeaaGreat
open Go Go.RowKit Go.Proofs
set_option maxHeartbeats 400000
theorem l00Same_c (w : World) (u v : Value) (xs ys : List Int) (ha : Ints w u xs) (hb : Ints w v ys) :
    Calls Tryz.prog 114 #[u, v] w fun e w' => e = .returned (.bool (lEq xs ys)) ∧ Ext w w' := by
  obtain ⟨A, ca, rfl, h1, h1'⟩ := ha.form
  obtain ⟨B, cb, rfl, h2, h2'⟩ := hb.form
  by_cases hl : xs.length = ys.length
  · have hl1 : ((xs.length : Int) != (ys.length : Int)) = false := by simp [hl]
    have hlle : xs.length ≤ ys.length := by omega
    have hlge : ys.length ≤ xs.length := by omega
    clear hl
    go_enter Tryz.func114, Tryz.ntmps114
    go_wp2
    go_loopw [5] (fun i wr => ∃ k : Nat, k ≤ xs.length ∧ i = .int .i64 k ∧ Ext w wr ∧ takeEq xs ys k) (fun i _ => xs.length - (intOf i).toNat)
    case atStart => exact ⟨0, Nat.zero_le _, rfl, Ext.refl _, rfl⟩
    case round =>
      obtain ⟨k, hk, rfl, hx, ht⟩ := hrel
      by_cases hlt : k < xs.length
      · obtain ⟨b, off, rfl, hc⟩ := ha.at hlt
        obtain ⟨b', off', rfl, hc'⟩ := hb.at (k := k) (by omega)
        have c0 := hx.cell (hc k hlt)
        have c0' := hx.cell (hc' k (by omega))
        clear hc hc' ha hb
        by_cases he : xs[k] = ys[k]
        · have H : (xs[k] != ys[k]) = false := by simp [he]
          have he' := Lib.hid he
          clear he
          go_wp2
          go_quiet (fail)
          go_wp2
          go_roundw
          case rel => exact ⟨k + 1, by omega, by go_num, hx.trans (Ext.drewN _ _), takeEq_step ht hlt (by omega) he'.out⟩
          case measure => simp [intOf]; omega
        · have H : (xs[k] != ys[k]) = true := by simp [he]
          go_wp2
          go_quiet (fail)
          go_wp2
          go_ret
          exact ⟨by simp [lEq_false (ne_of_get hlt (by omega) he)], hx.trans (Ext.drewN _ _)⟩
      · go_wp2
        go_ret
        exact ⟨by simp [lEq_true (eq_of_takeEq ht (by omega) (by omega))], hx⟩
  · have hl1 : ((xs.length : Int) != (ys.length : Int)) = true := by simp; omega
    go_enter Tryz.func114, Tryz.ntmps114
    go_wp2
    go_ret
    exact ⟨by simp [lEq_false (show ¬ xs = ys from fun h => hl (by rw [h]))], Ext.refl _⟩
def notIn (w : List Int) (xss : List (List Int)) (k : Nat) : Prop := ∀ x ∈ xss.take k, ¬ x = w
theorem notIn_step {w : List Int} {xss : List (List Int)} {k : Nat} (h : notIn w xss k) (hk : k < xss.length) (he : ¬ xss[k] = w) : notIn w xss (k + 1) := by
  unfold notIn at *
  rw [List.take_succ_eq_append_getElem hk]
  intro x hx
  rcases List.mem_append.1 hx with h1 | h1
  · exact h x h1
  · simp at h1; subst h1; exact he
theorem notIn_end {w : List Int} {xss : List (List Int)} {k : Nat} (h : notIn w xss k) (hk : xss.length ≤ k) : ¬ w ∈ xss := by
  intro hm
  exact h w (by rwa [List.take_of_length_le hk]) rfl
def allTo (p : Int → Bool) (zs : List Int) (k : Nat) : Prop := (zs.take k).all p = true
theorem allTo_step {p : Int → Bool} {zs : List Int} {k : Nat} (h : allTo p zs k) (hk : k < zs.length) (he : p zs[k] = true) : allTo p zs (k + 1) := by
  unfold allTo at *
  rw [List.take_succ_eq_append_getElem hk, List.all_append, h]; simp [he]
theorem allTo_end {p : Int → Bool} {zs : List Int} {k : Nat} (h : allTo p zs k) (hk : zs.length ≤ k) : zs.all p = true := by
  unfold allTo at h
  rwa [List.take_of_length_le hk] at h
theorem all_no {p : Int → Bool} {zs : List Int} {k : Nat} (hk : k < zs.length) (he : p zs[k] = false) : zs.all p = false := by
  rw [List.all_eq_false]
  exact ⟨zs[k], List.getElem_mem hk, by simp [he]⟩
theorem allWithin_c (v : Value) (zs : List Int) (lo hi : Int) (w : World) (h : Ints w v zs) :
    Calls Tryz.prog 93 #[v, .int .i64 lo, .int .i64 hi] w fun e w' => e = .returned (.bool (zs.all fun z => inB z lo hi)) ∧ w = w' := by
  obtain ⟨A, c, rfl, h1, h2⟩ := h.form
  go_enter Tryz.func93, Tryz.ntmps93
  go_wp2
  go_loop [11] (fun i => ∃ k : Nat, k ≤ zs.length ∧ i = .int .i64 k ∧ allTo (fun z => inB z lo hi) zs k) (fun i => zs.length - (intOf i).toNat)
  case atStart => exact ⟨0, Nat.zero_le _, rfl, rfl⟩
  case round =>
    obtain ⟨k, hk, rfl, ht⟩ := hrel
    by_cases hlt : k < zs.length
    · obtain ⟨b, off, rfl, hc⟩ := h.at hlt
      have c0 := hc k hlt
      clear hc
      cases he : inB zs[k] lo hi
      · go_wp2_with (go_at_call 56; refine (within_c _ _ _ _).mono ?_; rintro e w' ⟨rfl, rfl⟩)
        go_ret
        exact ⟨by simp [all_no (p := fun z => inB z lo hi) hlt he], rfl⟩
      · go_wp2_with (go_at_call 56; refine (within_c _ _ _ _).mono ?_; rintro e w' ⟨rfl, rfl⟩)
        go_round
        case rel => exact ⟨k + 1, by omega, by go_num, allTo_step (p := fun z => inB z lo hi) ht hlt he⟩
        case measure => simp [intOf]; omega
    · go_wp2
      go_ret
      exact ⟨by simp [allTo_end ht (by omega)], rfl⟩
/-- May a node begin: by the program. -/
def mayB (x : List Int) : Bool := decide (x.getD 1 0 ≤ 0) && (x.drop 2).all fun z => inB z (-1) 0
/-- May a node begin: by the reference. -/
def mayS (x : List Int) : Bool := decide (x.getD 1 0 ≤ 0) && (x.drop 2).all fun z => decide (z ≤ 0)
theorem Ints.drop {w : World} {b off c : Nat} {zs : List Int} (h : Ints w (.slice (some ⟨b, off, none⟩) zs.length c) zs) (k : Nat) (hk : k ≤ zs.length) : Ints w (.slice (some ⟨b, off + k, none⟩) (zs.length - k) (c - k)) (zs.drop k) := by
  obtain ⟨A, c', hv, h1, h2, h3, h4⟩ := h
  injection hv with e1 e2 e3
  subst e1 e3
  refine ⟨_, _, by rw [List.length_drop], by rw [List.length_drop]; omega, by omega, by simp, fun hn => ⟨b, off + k, rfl, fun j hj => ?_⟩⟩
  rw [List.length_drop] at hn
  obtain ⟨b', off', e, hc⟩ := h4 (by omega)
  injection e with e
  injection e with e5 e6 e7
  subst e5 e6
  simp only [ivs_length, List.length_drop] at hj
  rw [Nat.add_assoc, hc (k + j) (by simp; omega), ivs_get zs (k + j) (by omega), ivs_get (zs.drop k) j (by simp; omega)]
  simp
end Go.Proofs.YtfghojbbofobeaaGreat
namespace Go.Proofs.YtfghojbbofobeaaGreat
open Go Go.RowKit Go.Proofs
set_option maxHeartbeats 400000
theorem mayS_no {x : List Int} {k : Nat} (h2 : 2 ≤ k) (hk : k < x.length) (he : 0 < x[k]) : mayS x = false := by
  unfold mayS
  have : (x.drop 2).all (fun z => decide (z ≤ 0)) = false := by
    rw [List.all_eq_false]
    exact ⟨x[k], by rw [List.mem_drop_iff_getElem]; exact ⟨k - 2, by omega, by congr 1; omega⟩, by simp; omega⟩
  rw [this]; simp
theorem mayS_yes {x : List Int} (hl : 3 ≤ x.length) (h1 : x[1] ≤ 0) (h : ∀ j, 2 ≤ j → (hj : j < x.length) → x[j] ≤ 0) : mayS x = true := by
  unfold mayS
  have e1 : x.getD 1 0 = x[1] := by rw [List.getD_eq_getElem?_getD, List.getElem?_eq_getElem (by omega)]; rfl
  rw [e1]
  have : (x.drop 2).all (fun z => decide (z ≤ 0)) = true := by
    rw [List.all_eq_true]
    intro z hz
    rw [List.mem_drop_iff_getElem] at hz
    obtain ⟨j, hj, rfl⟩ := hz
    have := h (j + 2) (by omega) hj
    simpa [Nat.add_comm] using this
  rw [this]; simp [h1]
theorem mayS_no1 {x : List Int} (hl : 3 ≤ x.length) (h1 : ¬ x[1] ≤ 0) : mayS x = false := by
  unfold mayS
  have e1 : x.getD 1 0 = x[1] := by rw [List.getD_eq_getElem?_getD, List.getElem?_eq_getElem (by omega)]; rfl
  rw [e1]; simp [h1]
def lowTo (x : List Int) (k : Nat) : Prop := ∀ j, 2 ≤ j → j < k → (hj : j < x.length) → x[j] ≤ 0
theorem l00Own_c (v : Value) (zs : List Int) (w : World) (h : Ints w v zs) (h0 : 0 < zs.length) (h1 : zs.length ≤ 1048576) :
    Calls Tryz.prog 86 #[v] w fun e w' => ∃ u, e = .returned u ∧ OwnInts w.heap.size w' u zs ∧ Ext w w' := by
  obtain ⟨i0, hi, hz0, hz1, hz2⟩ := info_parts intInfo
  obtain ⟨A, c, rfl, _, _⟩ := h.form
  obtain ⟨b, off, rfl, hc⟩ := h.at h0
  have hcl := ints_cells hc
  have hown0 : (w.alloc (.cells #[] 2)).ownsRow w.heap.size 2 1 (.slice (some ⟨w.heap.size, 0, none⟩) 0 0) 0 [] :=
    World.ownsRow_made (base := w.heap.size) (e := 2) (size := 1) w #[] 0 (by simp) (by unfold maxLen; omega) (by simp)
  have hcl2 : ∀ j u, (ivs zs)[j]? = some u → (w.alloc (.cells #[] 2)).cell? ((⟨b, off, none⟩ : Addr).add j) = some u := by
    intro j u hj
    have hadd : (⟨b, off, none⟩ : Addr).add j = ⟨b, off + j, none⟩ := by unfold Addr.add; split <;> simp_all
    rw [hadd]
    exact (Ext.alloc _ _).cell (hcl j u hj)
  have hm : 0 + zs.length ≤ maxLen := by unfold maxLen; omega
  have HC := Lib.hid hcl2
  have HO := Lib.hid hown0
  clear hcl2 hcl hc hown0
  go_enter Tryz.func86, Tryz.ntmps86
  go_wp2_with (at_builtin; refine wpList_append_own _ rfl _ _ 46 rfl w.heap.size 2 i0 (.int .i64 0) 1 8 Tryz.underlying46 hi hz0 hz1 hz2 rfl (by decide) _ _ _ rfl HO.out ⟨b, off, none⟩ zs.length c (ivs zs) rfl (by simp) HC.out (ivs_one zs) hm (by omega) (by simp) ?_)
  intro v' w1 hown' hgrow _
  go_wp2
  go_ret
  refine ⟨_, rfl, ?_, (Ext.alloc _ _).grown hgrow (fun b hb => (HO.out.lt b hb).1)⟩
  simpa [OwnInts] using hown'
end Go.Proofs.YtfghojbbofobeaaGreat
namespace Go.Proofs.YtfghojbbofobeaaGreat
open Go Go.RowKit Go.Proofs
/-- A node of n cells is valid. -/
structure NodeOk (sy st : Int) (n : Nat) (x : List Int) : Prop where
  len : x.length = n + 2
  lo : -1 ≤ x.getD 0 0
  hi : x.getD 0 0 ≤ n
  out : (x.getD 0 0 < 0 ∨ x.getD 0 0 = n) → x.getD 1 0 = -1
  ins : ¬ (x.getD 0 0 < 0 ∨ x.getD 0 0 = n) → 0 ≤ x.getD 1 0 ∧ x.getD 1 0 < st
  cells : ∀ j, 2 ≤ j → j < n + 2 → -1 ≤ x.getD j 0 ∧ x.getD j 0 < sy
/-- The node before a node, by a rule r of a state p and a symbol a. -/
def before (x : List Int) (p a : Int) (r : RuleD) : Option (List Int) :=
  if (0 ≤ x.getD 1 0 ∧ r.n ≠ x.getD 1 0) ∨ x.getD 0 0 - r.m < -1 ∨ (x.length : Int) - 2 < x.getD 0 0 - r.m then none
  else if x.getD 0 0 - r.m = -1 ∨ x.getD 0 0 - r.m = (x.length : Int) - 2 then (if 0 ≤ x.getD 1 0 then some (segNode x (x.getD 0 0 - r.m) (-1) 0) else none)
  else if x.getD (2 + (x.getD 0 0 - r.m)).toNat 0 = r.w ∨ x.getD (2 + (x.getD 0 0 - r.m)).toNat 0 = -1 then some (segNode x (x.getD 0 0 - r.m) p a) else none
theorem getD_segNode_zero (x : List Int) (h p a : Int) (hl : 3 ≤ x.length) : (segNode x h p a).getD 0 0 = h := by
  unfold segNode
  split
  · rw [List.getD_eq_getElem?_getD, List.getElem?_set_ne (by omega), List.getElem?_set_ne (by omega), List.getElem?_set_self (by omega)]; rfl
  · rw [List.getD_eq_getElem?_getD, List.getElem?_set_ne (by omega), List.getElem?_set_self (by omega)]; rfl
theorem getD_segNode_one (x : List Int) (h p a : Int) (hl : 3 ≤ x.length) : (segNode x h p a).getD 1 0 = p := by
  unfold segNode
  split
  · rw [List.getD_eq_getElem?_getD, List.getElem?_set_ne (by omega), List.getElem?_set_self (by simp; omega)]; rfl
  · rw [List.getD_eq_getElem?_getD, List.getElem?_set_self (by simp; omega)]; rfl
theorem getD_segNode (x : List Int) (h p a : Int) (j : Nat) (hj : 2 ≤ j) : (segNode x h p a).getD j 0 = x.getD j 0 ∨ (segNode x h p a).getD j 0 = a := by
  unfold segNode
  split
  · by_cases e : (2 + h).toNat = j
    · by_cases hl : j < x.length
      · right; rw [e, List.getD_eq_getElem?_getD, List.getElem?_set_self (by simp; omega)]; rfl
      · left; simp only [List.getD_eq_getElem?_getD]; rw [List.getElem?_eq_none (by simp; omega), List.getElem?_eq_none (by omega)]
    · left; simp only [List.getD_eq_getElem?_getD]; rw [List.getElem?_set_ne e, List.getElem?_set_ne (by omega), List.getElem?_set_ne (by omega)]
  · left; simp only [List.getD_eq_getElem?_getD]; rw [List.getElem?_set_ne (by omega), List.getElem?_set_ne (by omega)]
/-- The node before a valid node is valid. -/
theorem before_ok {sy st : Int} {n : Nat} {x : List Int} {p a : Int} {r : RuleD} {y : List Int} (h : NodeOk sy st n x) (hn : 1 ≤ n) (hp : 0 ≤ p ∧ p < st) (ha : 0 ≤ a ∧ a < sy) (hy : before x p a r = some y) : NodeOk sy st n y := by
  have hl := h.len
  unfold before at hy
  split at hy
  · cases hy
  · rename_i h1
    simp only [not_or, Int.not_lt] at h1
    split at hy
    · rename_i h2
      split at hy
      · rename_i h3
        injection hy with hy
        subst hy
        refine ⟨by simp [hl], ?_, ?_, fun _ => getD_segNode_one _ _ _ _ (by omega), ?_, ?_⟩
        · rw [getD_segNode_zero _ _ _ _ (by omega)]; omega
        · rw [getD_segNode_zero _ _ _ _ (by omega)]; omega
        · rw [getD_segNode_zero _ _ _ _ (by omega)]; intro hh; exfalso; apply hh; omega
        · intro j h2 h3
          rcases getD_segNode x (x.getD 0 0 - r.m) (-1) 0 j h2 with e | e
          · rw [e]; exact h.cells j h2 h3
          · rw [e]; omega
      · cases hy
    · rename_i h2
      split at hy
      · injection hy with hy
        subst hy
        refine ⟨by simp [hl], ?_, ?_, ?_, ?_, ?_⟩
        · rw [getD_segNode_zero _ _ _ _ (by omega)]; omega
        · rw [getD_segNode_zero _ _ _ _ (by omega)]; omega
        · rw [getD_segNode_zero _ _ _ _ (by omega)]; intro hh; omega
        · rw [getD_segNode_one _ _ _ _ (by omega)]; intro _; exact hp
        · intro j h2 h3
          rcases getD_segNode x (x.getD 0 0 - r.m) p a j h2 with e | e
          · rw [e]; exact h.cells j h2 h3
          · rw [e]; omega
      · cases hy
/-- The ways through the program's test, with what each comes to. -/
theorem beforeWays (x : List Int) (p a : Int) (r : RuleD) (x0 x1 H N y : Int) (e0 : x.getD 0 0 = x0) (e1 : x.getD 1 0 = x1) (eH : x0 - r.m = H) (eN : (x.length : Int) - 2 = N) (ey : x.getD (2 + H).toNat 0 = y) :
    (0 ≤ x1 ∧ (r.n != x1) = true ∧ before x p a r = none) ∨
    (((0 ≤ x1 ∧ (r.n != x1) = false) ∨ x1 < 0) ∧ ((H < -1 ∧ before x p a r = none) ∨ (-1 ≤ H ∧ N < H ∧ before x p a r = none) ∨
      (H ≤ N ∧ (H == -1) = true ∧ before x p a r = if 0 ≤ x1 then some (segNode x H (-1) 0) else none) ∨
      (-1 ≤ H ∧ (H == -1) = false ∧ (H == N) = true ∧ before x p a r = if 0 ≤ x1 then some (segNode x H (-1) 0) else none) ∨
      (0 ≤ H ∧ H < N ∧ (H == -1) = false ∧ (H == N) = false ∧ (((y == r.w) = true ∧ before x p a r = some (segNode x H p a)) ∨ ((y == r.w) = false ∧ (y == -1) = true ∧ before x p a r = some (segNode x H p a)) ∨ ((y == r.w) = false ∧ (y == -1) = false ∧ before x p a r = none))))) := by
  unfold before
  rw [e0, e1, eH, eN, ey]
  by_cases c1 : 0 ≤ x1 ∧ r.n ≠ x1
  · exact .inl ⟨c1.1, by simp [c1.2], by rw [if_pos (.inl c1)]⟩
  · refine .inr ⟨?_, ?_⟩
    · by_cases c : 0 ≤ x1
      · exact .inl ⟨c, by simp; exact Classical.byContradiction fun hh => c1 ⟨c, hh⟩⟩
      · exact .inr (by omega)
    · by_cases c2 : H < -1
      · exact .inl ⟨c2, by rw [if_pos (.inr (.inl c2))]⟩
      · by_cases c3 : N < H
        · exact .inr (.inl ⟨by omega, c3, by rw [if_pos (.inr (.inr c3))]⟩)
        · have cc : ¬ ((0 ≤ x1 ∧ r.n ≠ x1) ∨ H < -1 ∨ N < H) := by
            rintro (h | h | h)
            · exact c1 h
            · exact c2 h
            · exact c3 h
          rw [if_neg cc]
          by_cases c4 : H = -1
          · exact .inr (.inr (.inl ⟨by omega, by simp [c4], by rw [if_pos (.inl c4)]⟩))
          · by_cases c5 : H = N
            · exact .inr (.inr (.inr (.inl ⟨by omega, by simp [c4], by simp [c5], by rw [if_pos (.inr c5)]⟩)))
            · have c6 : ¬ (H = -1 ∨ H = N) := by omega
              rw [if_neg c6]
              refine .inr (.inr (.inr (.inr ⟨by omega, by omega, by simp [c4], by simp [c5], ?_⟩)))
              by_cases d1 : y = r.w
              · exact .inl ⟨by simp [d1], by rw [if_pos (.inl d1)]⟩
              · by_cases d2 : y = -1
                · exact .inr (.inl ⟨by simp [d1], by simp [d2], by rw [if_pos (.inr d2)]⟩)
                · exact .inr (.inr ⟨by simp [d1], by simp [d2], by rw [if_neg (by rintro (h | h); exact d1 h; exact d2 h)]⟩)
end Go.Proofs.YtfghojbbofobeaaGreat
end
section
namespace Go.Proofs.YtfghojbbofobeaaGreat
open Go Go.RowKit Go.Proofs
set_option maxHeartbeats 400000
theorem l00Own0_c (A : Option Addr) (c : Nat) (w : World) :
    Calls Tryz.prog 86 #[.slice A 0 c] w fun e w' => ∃ u, e = .returned u ∧ OwnInts w.heap.size w' u [] ∧ Ext w w' := by
  have hown0 : (w.alloc (.cells #[] 2)).ownsRow w.heap.size 2 1 (.slice (some ⟨w.heap.size, 0, none⟩) 0 0) 0 [] :=
    World.ownsRow_made (base := w.heap.size) (e := 2) (size := 1) w #[] 0 (by simp) (by unfold maxLen; omega) (by simp)
  have HO := Lib.hid hown0
  clear hown0
  cases A with
  | none =>
    go_enter Tryz.func86, Tryz.ntmps86
    go_wp2
    go_ret
    exact ⟨_, rfl, HO.out, Ext.alloc _ _⟩
  | some a =>
    go_enter Tryz.func86, Tryz.ntmps86
    go_wp2
    go_ret
    exact ⟨_, rfl, HO.out, Ext.alloc _ _⟩
theorem l00OwnA_c (v : Value) (zs : List Int) (w : World) (h : Ints w v zs) (h1 : zs.length ≤ 1048576) :
    Calls Tryz.prog 86 #[v] w fun e w' => ∃ u, e = .returned u ∧ OwnInts w.heap.size w' u zs ∧ Ext w w' := by
  by_cases h0 : 0 < zs.length
  · exact l00Own_c v zs w h h0 h1
  · have hz : zs = [] := by simpa using h0
    subst hz
    obtain ⟨A, c, rfl, _, _⟩ := h.form
    exact l00Own0_c A c w
theorem Ints.take {w : World} {A : Option Addr} {c : Nat} {zs : List Int} (h : Ints w (.slice A zs.length c) zs) (k : Nat) (hk : k ≤ zs.length) : Ints w (.slice A k c) (zs.take k) := by
  obtain ⟨A', c', hv, g1, g2, g3, g4⟩ := h
  injection hv with hA _ hc
  subst hA
  subst hc
  have hl : (zs.take k).length = k := by simp; omega
  refine ⟨A, c, by rw [hl], by omega, g2, by simp [ivs], fun hn => ?_⟩
  rw [hl] at hn
  obtain ⟨b, off, hA, hcc⟩ := g4 (by omega)
  refine ⟨b, off, hA, fun j hj => ?_⟩
  have hj' : j < k := by rw [ivs_length, hl] at hj; exact hj
  rw [hcc j (by rw [ivs_length]; omega), ivs_get zs j (by omega), ivs_get (zs.take k) j (by omega)]
  simp
/-- How many cells a side keeps when the blanks at its end go. -/
def trimN (xs : List Int) : Nat → Nat
  | 0 => 0
  | n + 1 => if xs.getD n 0 = 0 then trimN xs n else n + 1
def trim (xs : List Int) : List Int := xs.take (trimN xs xs.length)
theorem trimN_le (xs : List Int) (n : Nat) : trimN xs n ≤ n := by
  induction n with
  | zero => exact Nat.le_refl _
  | succ n ih => unfold trimN; split <;> omega
theorem trim_len (xs : List Int) : (trim xs).length ≤ xs.length := by have := trimN_le xs xs.length; simp [trim]; omega
theorem trimN_zero (xs : List Int) : ∀ n i, trimN xs n ≤ i → i < n → xs.getD i 0 = 0 := by
  intro n
  induction n with
  | zero => intro i _ h; omega
  | succ n ih =>
    intro i h1 h2
    unfold trimN at h1
    split at h1
    · rename_i h
      by_cases c : i = n
      · subst c; exact h
      · exact ih i h1 (by omega)
    · omega
theorem trim_get (xs : List Int) (i : Nat) : (trim xs).getD i 0 = xs.getD i 0 := by
  have h1 := trimN_le xs xs.length
  by_cases c : i < trimN xs xs.length
  · simp only [trim, List.getD_eq_getElem?_getD, List.getElem?_take, if_pos c]
  · have e : (trim xs).getD i 0 = 0 := by
      rw [List.getD_eq_getElem?_getD, List.getElem?_eq_none (by simp [trim]; omega)]
      rfl
    rw [e]
    by_cases d : i < xs.length
    · exact (trimN_zero xs xs.length i (by omega) d).symm
    · rw [List.getD_eq_getElem?_getD, List.getElem?_eq_none (by omega)]
      rfl
theorem trim_mem {xs : List Int} {z : Int} (h : z ∈ trim xs) : z ∈ xs := List.mem_of_mem_take h
theorem l05Trim_c (v : Value) (xs : List Int) (w : World) (h : Ints w v xs) (h1 : xs.length ≤ 1048576) :
    Calls Tryz.prog 85 #[v] w fun e w' => ∃ u, e = .returned u ∧ OwnInts w.heap.size w' u (trim xs) ∧ Ext w w' := by
  have hI := h
  obtain ⟨A, c, rfl, h2, h2'⟩ := h.form
  go_enter Tryz.func85, Tryz.ntmps85
  go_wp2
  go_loopw [3] (fun i wr => ∃ n : Nat, n ≤ xs.length ∧ i = .int .i64 n ∧ wr = w ∧ trimN xs xs.length = trimN xs n) (fun i _ => (intOf i).toNat)
  case atStart => exact ⟨_, Nat.le_refl _, rfl, rfl, rfl⟩
  case round =>
    obtain ⟨n, hn, rfl, rfl, ht⟩ := hrel
    have HT := Lib.hid ht
    clear ht
    have done : trimN xs n = n → Ints wr (.slice A n c) (trim xs) := fun e => by
      have := hI.take n hn
      unfold trim
      rw [HT.out, e]
      exact this
    have DONE := Lib.hid done
    clear done
    by_cases h0 : n = 0
    · subst h0
      have hD := DONE.out rfl
      have hl : (trim xs).length ≤ 1048576 := by have := trim_len xs; omega
      have i1 : (0 : Int) ≤ (c : Int) := by omega
      go_wp2_with fail
      refine (l00OwnA_c _ _ _ hD hl).mono ?_
      rintro e w2 ⟨u, rfl, ho, hx⟩
      go_wp2
      go_ret
      exact ⟨_, rfl, ho, hx⟩
    · obtain ⟨k, rfl⟩ : ∃ k, n = k + 1 := ⟨n - 1, by omega⟩
      obtain ⟨b, off, rfl, hc⟩ := h.at (k := k) (by omega)
      have c0 := hc k (by omega)
      have eg : xs.getD k 0 = xs[k] := by rw [List.getD_eq_getElem?_getD, List.getElem?_eq_getElem (by omega)]; rfl
      have HEG := Lib.hid eg
      have hk0 : (0 : Int) < (k : Int) + 1 := by omega
      have hk1 : (k : Int) + 1 - 1 = (k : Int) := by omega
      clear hc eg
      by_cases hz : xs[k] = 0
      · have HZ := Lib.hid hz
        rw [hz] at c0
        clear hz
        go_wp2
        go_roundw
        case rel => exact ⟨k, by omega, by go_num, by first | rfl | trivial, by rw [HT.out]; show (if xs.getD k 0 = 0 then _ else _) = _; rw [if_pos (by rw [HEG.out, HZ.out])]⟩
        case measure => simp [intOf]
      · have hD := DONE.out (by show (if xs.getD k 0 = 0 then _ else _) = _; rw [if_neg (by rw [HEG.out]; exact hz)])
        have hl : (trim xs).length ≤ 1048576 := by have := trim_len xs; omega
        have Z : (xs[k] == 0) = false := beq_eq_false_iff_ne.2 hz
        have i1 : (k : Int) + 1 ≤ (c : Int) := by omega
        have i2 : (0 : Int) ≤ (k : Int) + 1 := by omega
        go_wp2_with fail
        refine (l00OwnA_c _ _ _ hD hl).mono ?_
        rintro e w2 ⟨u, rfl, ho, hx⟩
        go_wp2
        go_ret
        exact ⟨_, rfl, ho, hx⟩
end Go.Proofs.YtfghojbbofobeaaGreat
namespace Go.Proofs.YtfghojbbofobeaaGreat
open Go Go.RowKit Go.Proofs
set_option maxHeartbeats 400000
structure ConfR where
  q : Int
  l : List Int
  r : List Int
/-- A configuration in memory. -/
def ConfAt (w : World) (b : Nat) (c : ConfR) : Prop := ∃ lv rv, w.cell? ⟨b, 0, none⟩ = some (.int .i64 c.q) ∧ w.cell? ⟨b, 1, none⟩ = some lv ∧ w.cell? ⟨b, 2, none⟩ = some rv ∧ Ints w lv c.l ∧ Ints w rv c.r
theorem ConfAt.ext {w w' : World} {b : Nat} {c : ConfR} (h : ConfAt w b c) (he : Ext w w') : ConfAt w' b c := by
  obtain ⟨lv, rv, h1, h2, h3, h4, h5⟩ := h
  exact ⟨lv, rv, he.cell h1, he.cell h2, he.cell h3, h4.ext he, h5.ext he⟩
/-- The cell at the beginning of a side. -/
def hdR (xs : List Int) : Int := xs.getD 0 0
theorem l05Rest_c (v : Value) (xs : List Int) (w : World) (h : Ints w v xs) (h1 : xs.length ≤ 1048576) :
    Calls Tryz.prog 88 #[v] w fun e w' => ∃ u, e = .returned u ∧ OwnInts w.heap.size w' u (xs.drop 1) ∧ Ext w w' := by
  have hI := h
  obtain ⟨A, c, rfl, h2, h2'⟩ := h.form
  by_cases h0 : xs.length = 0
  · have hown0 : (w.alloc (.cells #[] 2)).ownsRow w.heap.size 2 1 (.slice (some ⟨w.heap.size, 0, none⟩) 0 0) 0 [] :=
      World.ownsRow_made (base := w.heap.size) (e := 2) (size := 1) w #[] 0 (by simp) (by unfold maxLen; omega) (by simp)
    have HO := Lib.hid hown0
    have hx : xs = [] := by simpa using h0
    subst hx
    clear hown0 h0 h hI
    go_enter Tryz.func88, Tryz.ntmps88
    go_wp2
    go_ret
    exact ⟨_, rfl, HO.out, Ext.alloc _ _⟩
  · obtain ⟨b, off, rfl, hc⟩ := h.at (k := 0) (by omega)
    have hd := hI.drop 1 (by omega)
    have hz : ((xs.length : Int) == 0) = false := beq_eq_false_iff_ne.2 (by omega)
    have hc1 : (1 : Int) ≤ (c : Int) := by omega
    have hl1 : (1 : Int) ≤ (xs.length : Int) := by omega
    clear hc
    by_cases hcc : c = 1
    · match xs, h0, h2 with
      | [x], _, _ =>
        subst hcc
        clear h hI hd
        go_enter Tryz.func88, Tryz.ntmps88
        go_wp2_with fail
        refine (l00Own0_c _ _ _).mono ?_
        rintro e w2 ⟨u, rfl, ho, hx⟩
        go_wp2
        go_ret
        exact ⟨_, rfl, ho, hx⟩
      | [], h0, _ => exact absurd rfl h0
      | x :: y :: r, _, h2 => simp at h2; omega
    go_enter Tryz.func88, Tryz.ntmps88
    go_wp2_with fail
    refine (l00OwnA_c _ _ _ hd (by simp; omega)).mono ?_
    rintro e w2 ⟨u, rfl, ho, hx⟩
    go_wp2
    go_ret
    exact ⟨_, rfl, ho, hx⟩
theorem own_litT {w : World} {base : Nat} (zs : List Int) (hb : base ≤ w.heap.size) (hl : zs.length ≤ 100) : OwnInts base (w.alloc (.cells (ivs zs).toArray 2)) (.slice (some ⟨w.heap.size, 0, none⟩) zs.length zs.length) zs :=
  ⟨by simp, .inr ⟨w.heap.size, zs.length, (ivs zs).toArray, rfl, hb, heap_alloc_new w _, Nat.le_refl _, by unfold maxLen; omega, by simp, by simp [List.take_of_length_le]⟩⟩
set_option maxRecDepth 20000 in
theorem l05Push_c (s : Int) (v : Value) (xs : List Int) (w : World) (h : Ints w v xs) (h1 : xs.length ≤ 10000) :
    Calls Tryz.prog 89 #[.int .i64 s, v] w fun e w' => ∃ u, e = .returned u ∧ OwnInts w.heap.size w' u (trim (s :: xs)) ∧ Ext w w' := by
  have hI := h
  obtain ⟨i0, hi, hz0, hz1, hz2⟩ := info_parts intInfo
  obtain ⟨A, c, rfl, h2, h2'⟩ := h.form
  obtain ⟨W, hW⟩ : ∃ W, W = w.alloc (.cells #[.int .i64 s] 2) := ⟨_, rfl⟩
  have hown : OwnInts w.heap.size W (.slice (some ⟨w.heap.size, 0, none⟩) 1 1) [s] := by rw [hW]; exact own_litT [s] (Nat.le_refl _) (by simp)
  have hX : Ext w W := by rw [hW]; exact Ext.alloc _ _
  by_cases h0 : xs.length = 0
  · have hx : xs = [] := by simpa using h0
    subst hx
    clear h0 h hI
    cases A with
    | none =>
      go_enter Tryz.func89, Tryz.ntmps89
      go_wp2_with fail
      rw [← hW]
      refine (l05Trim_c _ _ _ hown.ints (by simp)).mono ?_
      rintro e w2 ⟨u, rfl, ho, hx⟩
      go_wp2
      go_ret
      exact ⟨_, rfl, ownsRow_base ho hX.size, hX.trans hx⟩
    | some a =>
      go_enter Tryz.func89, Tryz.ntmps89
      go_wp2_with fail
      rw [← hW]
      refine (l05Trim_c _ _ _ hown.ints (by simp)).mono ?_
      rintro e w2 ⟨u, rfl, ho, hx⟩
      go_wp2
      go_ret
      exact ⟨_, rfl, ownsRow_base ho hX.size, hX.trans hx⟩
  · obtain ⟨b, off, rfl, hc⟩ := h.at (k := 0) (by omega)
    have hcl := ints_cells hc
    have hcl2 : ∀ j u, (ivs xs)[j]? = some u → W.cell? ((⟨b, off, none⟩ : Addr).add j) = some u := by
      intro j u hj
      have hadd : (⟨b, off, none⟩ : Addr).add j = ⟨b, off + j, none⟩ := by unfold Addr.add; split <;> simp_all
      rw [hadd]
      exact hX.cell (hcl j u hj)
    have hm : 1 + xs.length ≤ maxLen := by unfold maxLen; omega
    have HC := Lib.hid hcl2
    have HO : Hid (W.ownsRow w.heap.size 2 1 (.slice (some ⟨w.heap.size, 0, none⟩) 1 1) 1 [.int .i64 s]) := hown
    have hsz : w.heap.size ≤ W.heap.size := hX.size
    clear hcl2 hcl hc hown
    go_enter Tryz.func89, Tryz.ntmps89
    go_wp2_with (at_builtin; (rw [← hW]; refine wpList_append_own _ rfl _ _ 46 rfl w.heap.size 2 i0 (.int .i64 0) 1 8 Tryz.underlying46 hi hz0 hz1 hz2 rfl (by decide) _ _ _ rfl HO.out ⟨b, off, none⟩ xs.length c (ivs xs) rfl (by simp) HC.out (ivs_one xs) hm (by omega) (by omega) ?_))
    intro v' w1 hown' hgrow _
    rw [← hW] at hgrow
    have ho1 : OwnInts w.heap.size w1 v' (s :: xs) := by
      unfold OwnInts
      have e : (s :: xs).length = 1 + xs.length := by simp; omega
      rw [e]
      exact hown'
    have hx1 : Ext w w1 := hX.grown hgrow (fun b hb => (World.ownsRow.lt HO.out b hb).1)
    go_wp2_with fail
    refine (l05Trim_c _ _ _ ho1.ints (by simp; omega)).mono ?_
    rintro e w2 ⟨u, rfl, ho, hx⟩
    go_wp2
    go_ret
    exact ⟨_, rfl, ownsRow_base ho hx1.size, hx1.trans hx⟩
theorem l05Head_c (b : Nat) (c : ConfR) (w : World) (h : ConfAt w b c) :
    Calls Tryz.prog 116 #[.pointer (some ⟨b, 0, none⟩)] w fun e w' => e = .returned (.int .i64 (hdR c.r)) ∧ w = w' := by
  obtain ⟨lv, rv, c0, c1, c2, hl, hr⟩ := h
  obtain ⟨A, k, rfl, h2, h2'⟩ := hr.form
  by_cases h0 : c.r.length = 0
  · have hx : c.r = [] := by simpa using h0
    rw [hx] at c2
    have HX := Lib.hid hx
    clear hx h0 hr hl
    go_enter Tryz.func116, Tryz.ntmps116
    go_wp2
    go_ret
    exact ⟨by rw [HX.out]; rfl, rfl⟩
  · obtain ⟨b', off, rfl, hc⟩ := hr.at (k := 0) (by omega)
    have d0 := hc 0 (by omega)
    have hz : ((c.r.length : Int) == 0) = false := beq_eq_false_iff_ne.2 (by omega)
    have hl0 : (0 : Int) < (c.r.length : Int) := by omega
    have HE : Hid (hdR c.r = c.r[0]) := by unfold Hid hdR; rw [List.getD_eq_getElem?_getD, List.getElem?_eq_getElem (by omega)]; rfl
    simp only [Nat.add_zero] at d0
    generalize c.r[0] = z at *
    clear hc
    go_enter Tryz.func116, Tryz.ntmps116
    go_wp2
    go_ret
    exact ⟨by rw [HE.out]; rfl, rfl⟩
theorem l05At_c (b bc : Nat) (m : MachD) (c : ConfR) (w : World) (hm : MachAt w b m) (h : ConfAt w bc c) (q0 : 0 ≤ c.q) (q1 : c.q ≤ 1000) (s0 : 2 ≤ m.sy) (s1 : m.sy ≤ 6) (r0 : 0 ≤ hdR c.r) (r1 : hdR c.r ≤ 6) :
    Calls Tryz.prog 87 #[.pointer (some ⟨b, 0, none⟩), .pointer (some ⟨bc, 0, none⟩)] w fun e w' => e = .returned (.int .i64 (c.q * m.sy + hdR c.r)) ∧ Ext w w' := by
  have hC := h
  obtain ⟨rv, p0, _, _, _⟩ := hm
  obtain ⟨_, _, c0, _, _, _, _⟩ := h
  have d0 := cellR p0
  have d1 := cellR c0
  have hb : 0 ≤ c.q * m.sy ∧ c.q * m.sy ≤ 6000 := ⟨Int.mul_nonneg q0 (by omega), by
    have a1 := Int.mul_le_mul_of_nonneg_right q1 (show 0 ≤ m.sy by omega)
    have a2 := Int.mul_le_mul_of_nonneg_left s1 (show (0 : Int) ≤ 1000 by omega)
    omega⟩
  go_enter Tryz.func87, Tryz.ntmps87
  go_wp2
  refine wp_region_ext (by kernel_rfl) (by kernel_rfl) ?_
  repeat (go_big_quiet_step ((go_at_call 116; exact Calls.sameR (l05Head_c _ _ _ (hC.ext (below_regrown _ _ _))))))
  refine wpQuiet_nil ?_
  intro w2 hx2
  go_wp2
  go_ret
  exact ⟨rfl, hx2⟩
end Go.Proofs.YtfghojbbofobeaaGreat
end
section
namespace Go.Proofs.YtfghojbbofobeaaGreat
open Go Go.RowKit Go.Proofs
set_option maxHeartbeats 400000
/-- A configuration. -/
structure ConfD where
  q : Int
  l : List Int
  r : List Int
deriving DecidableEq
def Conf (w : World) (v : Value) (c : ConfD) : Prop := ∃ lv rv, v = .agg #[.int .i64 c.q, lv, rv] ∧ Ints w lv c.l ∧ Ints w rv c.r
theorem Conf.ext {w w' : World} {v : Value} {c : ConfD} (h : Conf w v c) (he : Ext w w') : Conf w' v c := by
  obtain ⟨lv, rv, hv, h1, h2⟩ := h; exact ⟨lv, rv, hv, h1.ext he, h2.ext he⟩
/-- A side of a tape may stand so. -/
def sideOk (xs : List Int) (sy most : Int) : Bool := decide ((xs.length : Int) ≤ most) && (xs.all fun z => inB z 0 (sy - 1)) && (((xs.length : Int) == 0) || xs.getLastD 0 != 0)
theorem lastD_get {xs : List Int} (h : 0 < xs.length) : xs.getLastD 0 = xs[xs.length - 1] := by
  rw [List.getLastD_eq_getLast?, List.getLast?_eq_getElem?, List.getElem?_eq_getElem (by omega)]
  rfl
def confB (m : MachD) (c : ConfD) : Bool := inB c.q 0 (m.st - 1) && sideOk c.l m.sy 200 && sideOk c.r m.sy 200
theorem machOk_bounds {m : MachD} (h : machOk m = true) : 2 ≤ m.sy ∧ m.sy ≤ 6 ∧ 1 ≤ m.st ∧ m.st ≤ 1000 := by
  simp only [machOk, inB, Bool.and_eq_true, decide_eq_true_eq] at h
  omega
theorem budgetOk_c (n : Int) (w : World) : Calls Tryz.prog 28 #[.int .i64 n] w fun e w' => e = .returned (.bool (inB n 1 20000)) ∧ w = w' := by
  go_enter Tryz.func28, Tryz.ntmps28
  go_wp2_with fail
  refine (within_c _ _ _ _).mono ?_
  rintro e w' ⟨rfl, rfl⟩
  go_wp2
  go_ret
  exact ⟨rfl, rfl⟩
def codeOf (m : MachD) (c : ConfD) (b : Int) : Int := if machOk m && confB m c then (if inB b 1 20000 then 0 else 2) else 1
def blankC : ConfD := ⟨0, [], []⟩
theorem conf_blank {m : MachD} (h : machOk m = true) : confB m blankC = true := by
  obtain ⟨_, _, _, _⟩ := machOk_bounds h
  simp [confB, blankC, sideOk, inB]
  omega
def budC (m : MachD) (b : Int) : Int := if machOk m then (if inB b 1 20000 then 0 else 2) else 1
theorem budC_eq (m : MachD) (b : Int) : codeOf m blankC b = budC m b := by
  unfold codeOf budC
  cases h : machOk m with
  | false => rfl
  | true => rw [conf_blank h]; rfl
theorem ints_nil (w : World) : Ints w (.slice none 0 0) [] := ⟨none, 0, rfl, Nat.le_refl _, by omega, rfl, fun h => by simp at h⟩
theorem l05Budget_c (n : Int) (w : World) : Calls Tryz.prog 20 #[.int .i64 n] w fun e w' => e = .returned (.bool (inB n 1 20000)) ∧ w = w' := by
  go_enter Tryz.func20, Tryz.ntmps20
  go_wp2_with fail
  refine (l00In_c _ _ _ _).mono ?_
  rintro e w' ⟨rfl, rfl⟩
  go_wp2
  go_ret
  exact ⟨rfl, rfl⟩
end Go.Proofs.YtfghojbbofobeaaGreat
end
