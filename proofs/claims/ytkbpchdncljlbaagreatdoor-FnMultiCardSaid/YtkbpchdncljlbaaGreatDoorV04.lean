/- Contracts of the tests on lists of numbers, the program's and the reference's.
Contracts of the reference's test whether a node may begin, and of its copies.
Plain words on nodes of segments: when a node is valid, and the node before it. No program stands here.
A region that draws its order, in which one operation calls or makes memory and all others only read: one walk in the order of the text serves every order. No program stands here.
Contract of the program's node before a node. The node has from 3 to 11 numbers, the place is in range, the move is at most one.
Contracts of the program's list of the nodes before a node. The machine is valid, the node is valid.
Contract of the program's list of the nodes before a node. The machine is valid, the node is valid. -/
import Derived.Test.YtkbpchdncljlbaaGreatDoorV03
import Derived.BigQuiet
import Derived.Deep.QuietTactic
import Derived.Test.YtkbpchdncljlbaaGreatDoorV01
import Derived.Deep.DeepCutAuto
section
namespace Go.Proofs.YtkbpchdncljlbaaGreatDoor
open Go Go.RowKit Go.Proofs
set_option maxHeartbeats 400000
theorem l00Same_c (w : World) (u v : Value) (xs ys : List Int) (ha : Ints w u xs) (hb : Ints w v ys) :
    Calls Tryz.prog 79 #[u, v] w fun e w' => e = .returned (.bool (lEq xs ys)) ∧ Ext w w' := by
  obtain ⟨A, ca, rfl, h1, h1'⟩ := ha.form
  obtain ⟨B, cb, rfl, h2, h2'⟩ := hb.form
  by_cases hl : xs.length = ys.length
  · have hl1 : ((xs.length : Int) != (ys.length : Int)) = false := by simp [hl]
    have hlle : xs.length ≤ ys.length := by omega
    have hlge : ys.length ≤ xs.length := by omega
    clear hl
    go_enter Tryz.func79, Tryz.ntmps79
    go_wp2
    go_loopw [5] (fun i wr => ∃ k : Nat, k ≤ xs.length ∧ i = .int .i64 k ∧ Ext w wr ∧ takeEq xs ys k) (fun i _ => xs.length - (intOf i).toNat)
    case atStart => exact ⟨0, Nat.zero_le _, rfl, Ext.refl _, rfl⟩
    case round =>
      obtain ⟨k, hk, rfl, hx, ht⟩ := hrel
      by_cases hlt : k < xs.length
      · obtain ⟨b, off, rfl, hc⟩ := ha.at hlt
        obtain ⟨b', off', rfl, hc'⟩ := hb.at (k := k) (by omega)
        have c0 := hx.cell (hc k hlt)
        have c0' := hx.cell (hc' k (by omega))
        clear hc hc' ha hb
        by_cases he : xs[k] = ys[k]
        · have H : (xs[k] != ys[k]) = false := by simp [he]
          have he' := Lib.hid he
          clear he
          go_wp2
          go_quiet (fail)
          go_wp2
          go_roundw
          case rel => exact ⟨k + 1, by omega, by go_num, hx.trans (Ext.drewN _ _), takeEq_step ht hlt (by omega) he'.out⟩
          case measure => simp [intOf]; omega
        · have H : (xs[k] != ys[k]) = true := by simp [he]
          go_wp2
          go_quiet (fail)
          go_wp2
          go_ret
          exact ⟨by simp [lEq_false (ne_of_get hlt (by omega) he)], hx.trans (Ext.drewN _ _)⟩
      · go_wp2
        go_ret
        exact ⟨by simp [lEq_true (eq_of_takeEq ht (by omega) (by omega))], hx⟩
  · have hl1 : ((xs.length : Int) != (ys.length : Int)) = true := by simp; omega
    go_enter Tryz.func79, Tryz.ntmps79
    go_wp2
    go_ret
    exact ⟨by simp [lEq_false (show ¬ xs = ys from fun h => hl (by rw [h]))], Ext.refl _⟩
def notIn (w : List Int) (xss : List (List Int)) (k : Nat) : Prop := ∀ x ∈ xss.take k, ¬ x = w
theorem notIn_step {w : List Int} {xss : List (List Int)} {k : Nat} (h : notIn w xss k) (hk : k < xss.length) (he : ¬ xss[k] = w) : notIn w xss (k + 1) := by
  unfold notIn at *
  rw [List.take_succ_eq_append_getElem hk]
  intro x hx
  rcases List.mem_append.1 hx with h1 | h1
  · exact h x h1
  · simp at h1; subst h1; exact he
theorem notIn_end {w : List Int} {xss : List (List Int)} {k : Nat} (h : notIn w xss k) (hk : xss.length ≤ k) : ¬ w ∈ xss := by
  intro hm
  exact h w (by rwa [List.take_of_length_le hk]) rfl
def allTo (p : Int → Bool) (zs : List Int) (k : Nat) : Prop := (zs.take k).all p = true
theorem allTo_step {p : Int → Bool} {zs : List Int} {k : Nat} (h : allTo p zs k) (hk : k < zs.length) (he : p zs[k] = true) : allTo p zs (k + 1) := by
  unfold allTo at *
  rw [List.take_succ_eq_append_getElem hk, List.all_append, h]; simp [he]
theorem allTo_end {p : Int → Bool} {zs : List Int} {k : Nat} (h : allTo p zs k) (hk : zs.length ≤ k) : zs.all p = true := by
  unfold allTo at h
  rwa [List.take_of_length_le hk] at h
theorem all_no {p : Int → Bool} {zs : List Int} {k : Nat} (hk : k < zs.length) (he : p zs[k] = false) : zs.all p = false := by
  rw [List.all_eq_false]
  exact ⟨zs[k], List.getElem_mem hk, by simp [he]⟩
theorem allWithin_c (v : Value) (zs : List Int) (lo hi : Int) (w : World) (h : Ints w v zs) :
    Calls Tryz.prog 97 #[v, .int .i64 lo, .int .i64 hi] w fun e w' => e = .returned (.bool (zs.all fun z => inB z lo hi)) ∧ w = w' := by
  obtain ⟨A, c, rfl, h1, h2⟩ := h.form
  go_enter Tryz.func97, Tryz.ntmps97
  go_wp2
  go_loop [11] (fun i => ∃ k : Nat, k ≤ zs.length ∧ i = .int .i64 k ∧ allTo (fun z => inB z lo hi) zs k) (fun i => zs.length - (intOf i).toNat)
  case atStart => exact ⟨0, Nat.zero_le _, rfl, rfl⟩
  case round =>
    obtain ⟨k, hk, rfl, ht⟩ := hrel
    by_cases hlt : k < zs.length
    · obtain ⟨b, off, rfl, hc⟩ := h.at hlt
      have c0 := hc k hlt
      clear hc
      cases he : inB zs[k] lo hi
      · go_wp2_with (go_at_call 50; refine (within_c _ _ _ _).mono ?_; rintro e w' ⟨rfl, rfl⟩)
        go_ret
        exact ⟨by simp [all_no (p := fun z => inB z lo hi) hlt he], rfl⟩
      · go_wp2_with (go_at_call 50; refine (within_c _ _ _ _).mono ?_; rintro e w' ⟨rfl, rfl⟩)
        go_round
        case rel => exact ⟨k + 1, by omega, by go_num, allTo_step (p := fun z => inB z lo hi) ht hlt he⟩
        case measure => simp [intOf]; omega
    · go_wp2
      go_ret
      exact ⟨by simp [allTo_end ht (by omega)], rfl⟩
/-- May a node begin: by the program. -/
def mayB (x : List Int) : Bool := decide (x.getD 1 0 ≤ 0) && (x.drop 2).all fun z => inB z (-1) 0
/-- May a node begin: by the reference. -/
def mayS (x : List Int) : Bool := decide (x.getD 1 0 ≤ 0) && (x.drop 2).all fun z => decide (z ≤ 0)
theorem Ints.drop {w : World} {b off c : Nat} {zs : List Int} (h : Ints w (.slice (some ⟨b, off, none⟩) zs.length c) zs) (k : Nat) (hk : k ≤ zs.length) : Ints w (.slice (some ⟨b, off + k, none⟩) (zs.length - k) (c - k)) (zs.drop k) := by
  obtain ⟨A, c', hv, h1, h2, h3, h4⟩ := h
  injection hv with e1 e2 e3
  subst e1 e3
  refine ⟨_, _, by rw [List.length_drop], by rw [List.length_drop]; omega, by omega, by simp, fun hn => ⟨b, off + k, rfl, fun j hj => ?_⟩⟩
  rw [List.length_drop] at hn
  obtain ⟨b', off', e, hc⟩ := h4 (by omega)
  injection e with e
  injection e with e5 e6 e7
  subst e5 e6
  simp only [ivs_length, List.length_drop] at hj
  rw [Nat.add_assoc, hc (k + j) (by simp; omega), ivs_get zs (k + j) (by omega), ivs_get (zs.drop k) j (by simp; omega)]
  simp
end Go.Proofs.YtkbpchdncljlbaaGreatDoor
namespace Go.Proofs.YtkbpchdncljlbaaGreatDoor
open Go Go.RowKit Go.Proofs
set_option maxHeartbeats 400000
theorem mayS_no {x : List Int} {k : Nat} (h2 : 2 ≤ k) (hk : k < x.length) (he : 0 < x[k]) : mayS x = false := by
  unfold mayS
  have : (x.drop 2).all (fun z => decide (z ≤ 0)) = false := by
    rw [List.all_eq_false]
    exact ⟨x[k], by rw [List.mem_drop_iff_getElem]; exact ⟨k - 2, by omega, by congr 1; omega⟩, by simp; omega⟩
  rw [this]; simp
theorem mayS_yes {x : List Int} (hl : 3 ≤ x.length) (h1 : x[1] ≤ 0) (h : ∀ j, 2 ≤ j → (hj : j < x.length) → x[j] ≤ 0) : mayS x = true := by
  unfold mayS
  have e1 : x.getD 1 0 = x[1] := by rw [List.getD_eq_getElem?_getD, List.getElem?_eq_getElem (by omega)]; rfl
  rw [e1]
  have : (x.drop 2).all (fun z => decide (z ≤ 0)) = true := by
    rw [List.all_eq_true]
    intro z hz
    rw [List.mem_drop_iff_getElem] at hz
    obtain ⟨j, hj, rfl⟩ := hz
    have := h (j + 2) (by omega) hj
    simpa [Nat.add_comm] using this
  rw [this]; simp [h1]
theorem mayS_no1 {x : List Int} (hl : 3 ≤ x.length) (h1 : ¬ x[1] ≤ 0) : mayS x = false := by
  unfold mayS
  have e1 : x.getD 1 0 = x[1] := by rw [List.getD_eq_getElem?_getD, List.getElem?_eq_getElem (by omega)]; rfl
  rw [e1]; simp [h1]
def lowTo (x : List Int) (k : Nat) : Prop := ∀ j, 2 ≤ j → j < k → (hj : j < x.length) → x[j] ≤ 0
theorem l00Own_c (v : Value) (zs : List Int) (w : World) (h : Ints w v zs) (h0 : 0 < zs.length) (h1 : zs.length ≤ 1048576) :
    Calls Tryz.prog 81 #[v] w fun e w' => ∃ u, e = .returned u ∧ OwnInts w.heap.size w' u zs ∧ Ext w w' := by
  obtain ⟨i0, hi, hz0, hz1, hz2⟩ := info_parts intInfo
  obtain ⟨A, c, rfl, _, _⟩ := h.form
  obtain ⟨b, off, rfl, hc⟩ := h.at h0
  have hcl := ints_cells hc
  have hown0 : (w.alloc (.cells #[] 2)).ownsRow w.heap.size 2 1 (.slice (some ⟨w.heap.size, 0, none⟩) 0 0) 0 [] :=
    World.ownsRow_made (base := w.heap.size) (e := 2) (size := 1) w #[] 0 (by simp) (by unfold maxLen; omega) (by simp)
  have hcl2 : ∀ j u, (ivs zs)[j]? = some u → (w.alloc (.cells #[] 2)).cell? ((⟨b, off, none⟩ : Addr).add j) = some u := by
    intro j u hj
    have hadd : (⟨b, off, none⟩ : Addr).add j = ⟨b, off + j, none⟩ := by unfold Addr.add; split <;> simp_all
    rw [hadd]
    exact (Ext.alloc _ _).cell (hcl j u hj)
  have hm : 0 + zs.length ≤ maxLen := by unfold maxLen; omega
  have HC := Lib.hid hcl2
  have HO := Lib.hid hown0
  clear hcl2 hcl hc hown0
  go_enter Tryz.func81, Tryz.ntmps81
  go_wp2_with (at_builtin; refine wpList_append_own _ rfl _ _ 48 rfl w.heap.size 2 i0 (.int .i64 0) 1 8 Tryz.underlying48 hi hz0 hz1 hz2 rfl (by decide) _ _ _ rfl HO.out ⟨b, off, none⟩ zs.length c (ivs zs) rfl (by simp) HC.out (ivs_one zs) hm (by omega) (by simp) ?_)
  intro v' w1 hown' hgrow _
  go_wp2
  go_ret
  refine ⟨_, rfl, ?_, (Ext.alloc _ _).grown hgrow (fun b hb => (HO.out.lt b hb).1)⟩
  simpa [OwnInts] using hown'
end Go.Proofs.YtkbpchdncljlbaaGreatDoor
namespace Go.Proofs.YtkbpchdncljlbaaGreatDoor
open Go Go.RowKit Go.Proofs
/-- A node of n cells is valid. -/
structure NodeOk (sy st : Int) (n : Nat) (x : List Int) : Prop where
  len : x.length = n + 2
  lo : -1 ≤ x.getD 0 0
  hi : x.getD 0 0 ≤ n
  out : (x.getD 0 0 < 0 ∨ x.getD 0 0 = n) → x.getD 1 0 = -1
  ins : ¬ (x.getD 0 0 < 0 ∨ x.getD 0 0 = n) → 0 ≤ x.getD 1 0 ∧ x.getD 1 0 < st
  cells : ∀ j, 2 ≤ j → j < n + 2 → -1 ≤ x.getD j 0 ∧ x.getD j 0 < sy
/-- The node before a node, by a rule r of a state p and a symbol a. -/
def before (x : List Int) (p a : Int) (r : RuleD) : Option (List Int) :=
  if (0 ≤ x.getD 1 0 ∧ r.n ≠ x.getD 1 0) ∨ x.getD 0 0 - r.m < -1 ∨ (x.length : Int) - 2 < x.getD 0 0 - r.m then none
  else if x.getD 0 0 - r.m = -1 ∨ x.getD 0 0 - r.m = (x.length : Int) - 2 then (if 0 ≤ x.getD 1 0 then some (segNode x (x.getD 0 0 - r.m) (-1) 0) else none)
  else if x.getD (2 + (x.getD 0 0 - r.m)).toNat 0 = r.w ∨ x.getD (2 + (x.getD 0 0 - r.m)).toNat 0 = -1 then some (segNode x (x.getD 0 0 - r.m) p a) else none
theorem getD_segNode_zero (x : List Int) (h p a : Int) (hl : 3 ≤ x.length) : (segNode x h p a).getD 0 0 = h := by
  unfold segNode
  split
  · rw [List.getD_eq_getElem?_getD, List.getElem?_set_ne (by omega), List.getElem?_set_ne (by omega), List.getElem?_set_self (by omega)]; rfl
  · rw [List.getD_eq_getElem?_getD, List.getElem?_set_ne (by omega), List.getElem?_set_self (by omega)]; rfl
theorem getD_segNode_one (x : List Int) (h p a : Int) (hl : 3 ≤ x.length) : (segNode x h p a).getD 1 0 = p := by
  unfold segNode
  split
  · rw [List.getD_eq_getElem?_getD, List.getElem?_set_ne (by omega), List.getElem?_set_self (by simp; omega)]; rfl
  · rw [List.getD_eq_getElem?_getD, List.getElem?_set_self (by simp; omega)]; rfl
theorem getD_segNode (x : List Int) (h p a : Int) (j : Nat) (hj : 2 ≤ j) : (segNode x h p a).getD j 0 = x.getD j 0 ∨ (segNode x h p a).getD j 0 = a := by
  unfold segNode
  split
  · by_cases e : (2 + h).toNat = j
    · by_cases hl : j < x.length
      · right; rw [e, List.getD_eq_getElem?_getD, List.getElem?_set_self (by simp; omega)]; rfl
      · left; simp only [List.getD_eq_getElem?_getD]; rw [List.getElem?_eq_none (by simp; omega), List.getElem?_eq_none (by omega)]
    · left; simp only [List.getD_eq_getElem?_getD]; rw [List.getElem?_set_ne e, List.getElem?_set_ne (by omega), List.getElem?_set_ne (by omega)]
  · left; simp only [List.getD_eq_getElem?_getD]; rw [List.getElem?_set_ne (by omega), List.getElem?_set_ne (by omega)]
/-- The node before a valid node is valid. -/
theorem before_ok {sy st : Int} {n : Nat} {x : List Int} {p a : Int} {r : RuleD} {y : List Int} (h : NodeOk sy st n x) (hn : 1 ≤ n) (hp : 0 ≤ p ∧ p < st) (ha : 0 ≤ a ∧ a < sy) (hy : before x p a r = some y) : NodeOk sy st n y := by
  have hl := h.len
  unfold before at hy
  split at hy
  · cases hy
  · rename_i h1
    simp only [not_or, Int.not_lt] at h1
    split at hy
    · rename_i h2
      split at hy
      · rename_i h3
        injection hy with hy
        subst hy
        refine ⟨by simp [hl], ?_, ?_, fun _ => getD_segNode_one _ _ _ _ (by omega), ?_, ?_⟩
        · rw [getD_segNode_zero _ _ _ _ (by omega)]; omega
        · rw [getD_segNode_zero _ _ _ _ (by omega)]; omega
        · rw [getD_segNode_zero _ _ _ _ (by omega)]; intro hh; exfalso; apply hh; omega
        · intro j h2 h3
          rcases getD_segNode x (x.getD 0 0 - r.m) (-1) 0 j h2 with e | e
          · rw [e]; exact h.cells j h2 h3
          · rw [e]; omega
      · cases hy
    · rename_i h2
      split at hy
      · injection hy with hy
        subst hy
        refine ⟨by simp [hl], ?_, ?_, ?_, ?_, ?_⟩
        · rw [getD_segNode_zero _ _ _ _ (by omega)]; omega
        · rw [getD_segNode_zero _ _ _ _ (by omega)]; omega
        · rw [getD_segNode_zero _ _ _ _ (by omega)]; intro hh; omega
        · rw [getD_segNode_one _ _ _ _ (by omega)]; intro _; exact hp
        · intro j h2 h3
          rcases getD_segNode x (x.getD 0 0 - r.m) p a j h2 with e | e
          · rw [e]; exact h.cells j h2 h3
          · rw [e]; omega
      · cases hy
/-- The ways through the program's test, with what each comes to. -/
theorem beforeWays (x : List Int) (p a : Int) (r : RuleD) (x0 x1 H N y : Int) (e0 : x.getD 0 0 = x0) (e1 : x.getD 1 0 = x1) (eH : x0 - r.m = H) (eN : (x.length : Int) - 2 = N) (ey : x.getD (2 + H).toNat 0 = y) :
    (0 ≤ x1 ∧ (r.n != x1) = true ∧ before x p a r = none) ∨
    (((0 ≤ x1 ∧ (r.n != x1) = false) ∨ x1 < 0) ∧ ((H < -1 ∧ before x p a r = none) ∨ (-1 ≤ H ∧ N < H ∧ before x p a r = none) ∨
      (H ≤ N ∧ (H == -1) = true ∧ before x p a r = if 0 ≤ x1 then some (segNode x H (-1) 0) else none) ∨
      (-1 ≤ H ∧ (H == -1) = false ∧ (H == N) = true ∧ before x p a r = if 0 ≤ x1 then some (segNode x H (-1) 0) else none) ∨
      (0 ≤ H ∧ H < N ∧ (H == -1) = false ∧ (H == N) = false ∧ (((y == r.w) = true ∧ before x p a r = some (segNode x H p a)) ∨ ((y == r.w) = false ∧ (y == -1) = true ∧ before x p a r = some (segNode x H p a)) ∨ ((y == r.w) = false ∧ (y == -1) = false ∧ before x p a r = none))))) := by
  unfold before
  rw [e0, e1, eH, eN, ey]
  by_cases c1 : 0 ≤ x1 ∧ r.n ≠ x1
  · exact .inl ⟨c1.1, by simp [c1.2], by rw [if_pos (.inl c1)]⟩
  · refine .inr ⟨?_, ?_⟩
    · by_cases c : 0 ≤ x1
      · exact .inl ⟨c, by simp; exact Classical.byContradiction fun hh => c1 ⟨c, hh⟩⟩
      · exact .inr (by omega)
    · by_cases c2 : H < -1
      · exact .inl ⟨c2, by rw [if_pos (.inr (.inl c2))]⟩
      · by_cases c3 : N < H
        · exact .inr (.inl ⟨by omega, c3, by rw [if_pos (.inr (.inr c3))]⟩)
        · have cc : ¬ ((0 ≤ x1 ∧ r.n ≠ x1) ∨ H < -1 ∨ N < H) := by
            rintro (h | h | h)
            · exact c1 h
            · exact c2 h
            · exact c3 h
          rw [if_neg cc]
          by_cases c4 : H = -1
          · exact .inr (.inr (.inl ⟨by omega, by simp [c4], by rw [if_pos (.inl c4)]⟩))
          · by_cases c5 : H = N
            · exact .inr (.inr (.inr (.inl ⟨by omega, by simp [c4], by simp [c5], by rw [if_pos (.inr c5)]⟩)))
            · have c6 : ¬ (H = -1 ∨ H = N) := by omega
              rw [if_neg c6]
              refine .inr (.inr (.inr (.inr ⟨by omega, by omega, by simp [c4], by simp [c5], ?_⟩)))
              by_cases d1 : y = r.w
              · exact .inl ⟨by simp [d1], by rw [if_pos (.inl d1)]⟩
              · by_cases d2 : y = -1
                · exact .inr (.inl ⟨by simp [d1], by simp [d2], by rw [if_pos (.inr d2)]⟩)
                · exact .inr (.inr ⟨by simp [d1], by simp [d2], by rw [if_neg (by rintro (h | h); exact d1 h; exact d2 h)]⟩)
end Go.Proofs.YtkbpchdncljlbaaGreatDoor
end
section
namespace Go.Proofs.YtkbpchdncljlbaaGreatDoor
open Go
section
variable {P : Program} {ops : Array Oper} {md : Region.Mode} {C : World → Prop} {Post : Value → World → Prop}
/-- An operation that only reads. -/
def plainOp (o : Oper) : Bool :=
  match o.op with
  | .move _ | .assign _ | .pick _ _ _ | .load _ _ | .fieldAddr _ _ _ | .binOp _ _ _ _ _ | .unOp _ _ _ | .indexAddr _ _ _ | .slice _ _ _ _ _ | .convert _ _ _ | .extract _ _ | .field _ _ _ | .index _ _ _ => true
  | _ => false
theorem run_value {s : Sem Value} {w w' : World} {n : Next} (h : (do pure (Next.value (← s)) : Sem Next).run P w = .ok n w') : ∃ v, n = .value v := by
  rw [Sem.run_bind] at h
  cases hs : s.run P w with
  | ok v w1 => rw [hs] at h; simp only [Result.andThen_ok, Sem.run_pure, Result.ok.injEq] at h; exact ⟨v, h.1.symm⟩
  | halt x w1 => rw [hs] at h; cases h
theorem plain_value {o : Oper} (ho : plainOp o = true) {ρ : Operand → Value} {w w' : World} {n : Next} (h : (execOp ρ o).run P w = .ok n w') : ∃ v, n = .value v := by
  unfold plainOp at ho
  unfold execOp at h
  split at ho <;> rename_i hop <;> simp only [hop] at h
  case h_14 => cases ho
  case h_1 => simp only [Sem.run_pure, Result.ok.injEq] at h; exact ⟨_, h.1.symm⟩
  case h_2 => simp only [Sem.run_pure, Result.ok.injEq] at h; exact ⟨_, h.1.symm⟩
  case h_3 =>
    rw [Sem.run_bind] at h
    generalize (asBool _).run P w = r at h
    cases r with
    | ok v w1 => simp only [Result.andThen_ok, Sem.run_pure, Result.ok.injEq] at h; exact ⟨_, h.1.symm⟩
    | halt x w1 => cases h
  all_goals exact run_value h
/-- Two values that an operation yields in one world are one. -/
theorem yields_unique {o : Oper} (ho : plainOp o = true) {a : Act} {v v' : Value} {w : World} (hw : C w) (h : YieldsIn P ops C o v a) (h' : YieldsIn P ops C o v' a) : v = v' := by
  rcases h with ⟨h1, h2⟩ | ⟨h1, rfl⟩ <;> rcases h' with ⟨h1', h2'⟩ | ⟨h1', rfl⟩
  · have a1 := h2 w hw
    have a2 := h2' w hw
    unfold Oper.quietAt at a1 a2
    cases hr : (execOp a.eval o).run P w with
    | ok n w' =>
      obtain ⟨u, rfl⟩ := plain_value ho hr
      rw [hr] at a1 a2
      exact a1.2.symm.trans a2.2
    | halt x w' => rw [hr] at a1; exact a1.elim
  · rw [h1] at h1'; cases h1'
  · rw [h1] at h1'; cases h1'
  · rfl
/-- What is asked of the one operation that stirs, by what it comes to. -/
def stirUpon (P : Program) (K : Value → World → Prop) : Result Next → Prop
  | .ok (.value v) w' => K v w'
  | .ok .skip w' => K undef w'
  | .ok (.enter f args) w' => Calls P f args w' (fun e w'' => ∃ v, e = .returned v ∧ K v w'')
  | _ => False
def stirAt (P : Program) (o : Oper) (a : Act) (w : World) (K : Value → World → Prop) : Prop := stirUpon P K ((execOp a.eval o).run P w)
theorem stirAt.wp {o : Oper} {a : Act} {w : World} {K : Value → World → Prop} {K' : Act → World → Prop} {Q : Exit → Act → World → Prop} (h : stirAt P o a w K) (hk : ∀ u w', K u w' → K' (a.put o.dst u) w') : o.wp P a w K' Q := by
  unfold stirAt at h
  unfold Oper.wp
  generalize (execOp a.eval o).run P w = r at *
  cases r with
  | ok n w' =>
    cases n <;> simp only [stirUpon] at h <;> simp only [Oper.upon]
    case value v => exact hk _ _ h
    case skip => exact hk _ _ h
    case enter f args => exact Calls.mono h fun e w'' ⟨v, he, hv⟩ => by subst he; exact hk _ _ hv
  | halt x w' => simp only [stirUpon] at h
theorem stirAt.some {o : Oper} {a : Act} {w : World} {K : Value → World → Prop} (h : stirAt P o a w K) : ∃ u w', K u w' := by
  unfold stirAt at h
  generalize (execOp a.eval o).run P w = r at *
  cases r with
  | ok n w' =>
    cases n <;> simp only [stirUpon] at h
    case value v => exact ⟨_, _, h⟩
    case skip => exact ⟨_, _, h⟩
    case enter f args =>
      obtain ⟨e, w'', fr, ⟨v, _, hv⟩, _⟩ := h []
      exact ⟨_, _, hv⟩
  | halt x w' => simp only [stirUpon] at h
/-- From every world of the class it yields a value and a world of the class, with what is asked of both. -/
def Stirs (P : Program) (ops : Array Oper) (C : World → Prop) (Post : Value → World → Prop) (o : Oper) (a : Act) : Prop :=
  Region.wanted o (yielded ops a.tmps) = true ∧ ∀ w, C w → stirAt P o a w (fun u w' => C w' ∧ Post u w')
theorem Stirs.of_same {o : Oper} {a a' : Act} (h : Stirs P ops C Post o a) (he : execOp a'.eval o = execOp a.eval o)
    (hw : Region.wanted o (yielded ops a'.tmps) = Region.wanted o (yielded ops a.tmps)) : Stirs P ops C Post o a' := by
  unfold Stirs stirAt at *
  rw [he, hw]
  exact h
/-- Whatever order is picked, the one operation not having come up yet. -/
def wpA (P : Program) (md : Region.Mode) (ops : Array Oper) (C : World → Prop) (Post : Value → World → Prop) (QQ : Value → Act → Prop) (t : Nat) (ot : Oper) : Nat → Array Bool → Act → Prop
  | 0, _, _ => False
  | f + 1, listed, a => Region.ready md ops listed ≠ [] ∧ ∀ i ∈ Region.ready md ops listed, (i ≠ t → qOp P ops C i (wpA P md ops C Post QQ t ot f (listed.setIfInBounds i true)) a) ∧
      (i = t → Stirs P ops C Post ot a ∧ ∀ u, (∃ w, C w ∧ Post u w) → wpAnyQ P md ops C (QQ u) f (listed.setIfInBounds t true) (a.put ot.dst u))
theorem qOp_plain {i : Nat} {o : Oper} {a : Act} {K : Act → Prop} {K' : Act → World → Prop} {Q' : Exit → Act → World → Prop} {w : World} (hi : ops[i]? = some o) (ho : plainOp o = true) (hw : C w) (h : qOp P ops C i K a) (hk : ∀ a', K a' → K' a' w) : wpOp P ops Q' i K' a w := by
  unfold qOp at h
  unfold wpOp
  simp only [hi] at h ⊢
  split
  · rename_i hwn
    simp only [hwn, if_true] at h
    obtain ⟨v, hv, hn⟩ := h
    refine .inl ?_
    have a1 := hv w hw
    unfold Oper.quietAt at a1
    unfold Oper.wp
    cases hr : (execOp a.eval o).run P w with
    | ok n w' =>
      obtain ⟨u, rfl⟩ := plain_value ho hr
      rw [hr] at a1
      obtain ⟨rfl, rfl⟩ := a1
      exact hk _ hn
    | halt x w' => rw [hr] at a1; exact a1.elim
  · rename_i hwn
    simp only [hwn] at h
    exact hk _ h
theorem wpAny_of_B {QQ : Act → Prop} {Q' : Exit → Act → World → Prop} {w : World} (hw : C w) (hQ : ∀ a, QQ a → Q' .normal a w) : ∀ (f : Nat) (listed : Array Bool) (a : Act),
    (∀ j o, ops[j]? = some o → listed.getD j true = false → plainOp o = true) → wpAnyQ P md ops C QQ f listed a → wpAny P md ops Q' f listed a w
  | 0, _, _, _, h => ⟨h.1, hQ _ h.2⟩
  | f + 1, listed, a, hp, h => ⟨fun h0 => hQ _ (h.1 h0), fun i hi => by
      obtain ⟨hun, o, ho, _⟩ := mem_ready.1 hi
      refine qOp_plain ho (hp i o ho hun) hw (h.2 i hi) fun a' h' => wpAny_of_B hw hQ f _ a' ?_ h'
      intro j oj hj hjun
      by_cases e : i = j
      · subst e; exact hp _ _ hj hun
      · rw [getD_set_ne true e] at hjun; exact hp j oj hj hjun⟩
theorem wpAny_of_A {QQ : Value → Act → Prop} {Q' : Exit → Act → World → Prop} {t : Nat} {ot : Oper} (ht : ops[t]? = some ot) (hp : ∀ j o, ops[j]? = some o → j ≠ t → plainOp o = true) (hQ : ∀ u a w, C w → Post u w → QQ u a → Q' .normal a w) :
    ∀ (f : Nat) (listed : Array Bool) (a : Act) (w : World), C w → t < listed.size → wpA P md ops C Post QQ t ot f listed a → wpAny P md ops Q' f listed a w
  | 0, _, _, _, _, _, h => h.elim
  | f + 1, listed, a, w, hw, hl, h => ⟨fun h0 => absurd h0 h.1, fun i hi => by
      by_cases e : i = t
      · subst e
        obtain ⟨hs, hu⟩ := (h.2 i hi).2 rfl
        unfold wpOp
        simp only [ht]
        rw [if_pos hs.1]
        refine .inl ((hs.2 w hw).wp fun u w' ⟨hc, hpo⟩ => ?_)
        refine wpAny_of_B hc (fun a' ha' => hQ u a' w' hc hpo ha') f _ _ ?_ (hu u ⟨w', hc, hpo⟩)
        intro j o hj hjun
        by_cases ej : j = i
        · subst ej
          rw [Array.getD_eq_getD_getElem?, Array.getElem?_setIfInBounds_self_of_lt hl] at hjun
          simp at hjun
        · exact hp j o hj ej
      · obtain ⟨_, o, ho, _⟩ := mem_ready.1 hi
        exact qOp_plain ho (hp i o ho e) hw ((h.2 i hi).1 e) fun a' h' => wpAny_of_A ht hp hQ f _ a' w hw (by simpa using hl) h'⟩
theorem apart_keep {oi oj : Oper} {v : Value} {a : Act} (hap : oi.apart ops oj = true) (hsi : ∀ cs b, oi.op ≠ .select cs b) (hy : YieldsIn P ops C oi v a) (u : Value) : YieldsIn P ops C oi v (a.put oj.dst u) := by
  obtain ⟨_, _, h3⟩ := Oper.apart_spec hap
  exact hy.of_same (execOp_put oi hsi a oj.dst u h3) (wanted_put oi a oj.dst u h3)
theorem apart_back {oi oj : Oper} {v : Value} {a : Act} {u : Value} (hap : oj.apart ops oi = true) (hsi : ∀ cs b, oi.op ≠ .select cs b) (hy : YieldsIn P ops C oi v (a.put oj.dst u)) : YieldsIn P ops C oi v a := by
  obtain ⟨h1, _, _⟩ := Oper.apart_spec hap
  exact hy.of_same (execOp_put oi hsi a oj.dst u h1).symm (wanted_put oi a oj.dst u h1).symm
theorem free_set {i j : Nat} {oi : Oper} {listed : Array Bool} (hfree : ∀ k ok, ops[k]? = some ok → k ≠ i → listed.getD k true = false → (∀ e ∈ ok.after, Region.binds md e = true → e.on ≠ i) → oi.apart ops ok = true)
    (hjun : listed.getD j true = false) : ∀ k ok, ops[k]? = some ok → k ≠ i → (listed.setIfInBounds j true).getD k true = false → (∀ e ∈ ok.after, Region.binds md e = true → e.on ≠ i) → oi.apart ops ok = true := fun k ok hk hki hun hno => by
  refine hfree k ok hk hki ?_ hno
  by_cases hjk : j = k
  · subst hjk; exact hjun
  · rw [getD_set_ne true hjk] at hun; exact hun
theorem not_waits {i : Nat} {oj : Oper} {listed : Array Bool} (hall : ∀ e ∈ oj.after, Region.binds md e = true → listed.getD e.on false = true) (h0 : listed.getD i true = false) : ∀ e ∈ oj.after, Region.binds md e = true → e.on ≠ i := fun e he hb heq => by
  have h1 := hall e he hb
  rw [heq] at h1
  rcases Nat.lt_or_ge i listed.size with h' | h'
  · simp [h'] at h0 h1; rw [h0] at h1; cases h1
  · simp [Array.getElem?_eq_none h'] at h1
/-- A reading operation may be taken first. -/
theorem wpA_first {QQ : Value → Act → Prop} {t : Nat} {ot : Oper} {k : Nat} {ok : Oper} {v : Value} (ht : ops[t]? = some ot) (hk : ops[k]? = some ok) (hkt : k ≠ t) (hsel : ∀ (j : Nat) (o : Oper) cs b, ops[j]? = some o → o.op ≠ .select cs b) :
    ∀ (f : Nat) (listed : Array Bool) (a : Act),
      (∀ j oj, ops[j]? = some oj → j ≠ k → listed.getD j true = false → (∀ e ∈ oj.after, Region.binds md e = true → e.on ≠ k) → ok.apart ops oj = true) →
      k ∈ Region.ready md ops listed → YieldsIn P ops C ok v a →
      wpA P md ops C Post QQ t ot f (listed.setIfInBounds k true) (a.put ok.dst v) → wpA P md ops C Post QQ t ot (f + 1) listed a := by
  intro f
  induction f with
  | zero => intro listed a _ _ _ H; exact H.elim
  | succ f ih =>
    intro listed a hfree hr hy H
    refine ⟨fun h => (by rw [h] at hr; cases hr), fun j hj => ⟨fun hjt => ?_, fun hjt => ?_⟩⟩
    · by_cases hjk : j = k
      · subst hjk; exact hy.qOp hk H
      · have h1 := (H.2 j (ready_mono hj hjk)).1 hjt
        obtain ⟨hjun, oj, hoj, hall⟩ := mem_ready.1 hj
        have hnot := not_waits (md := md) hall (mem_ready.1 hr).1
        have h2 := qOp_put hoj (hfree j oj hoj hjk hjun hnot) (fun cs b => hsel k ok cs b hk) (fun cs b => hsel j oj cs b hoj) hy h1
        refine qOp_mono (fun a' h3 => ih (listed.setIfInBounds j true) a' (free_set hfree hjun) (ready_mono hr (Ne.symm hjk)) h3.1 ?_) h2
        rw [Array.setIfInBounds_comm _ _ hjk]
        exact h3.2
    · subst hjt
      have hjk : j ≠ k := Ne.symm hkt
      obtain ⟨hjun, oj, hoj, hall⟩ := mem_ready.1 hj
      have hoe : oj = ot := Option.some.inj (hoj.symm.trans ht)
      subst hoe
      have hnot := not_waits (md := md) hall (mem_ready.1 hr).1
      have hap := hfree j oj hoj hjk hjun hnot
      obtain ⟨p1, p2, p3⟩ := Oper.apart_spec hap
      obtain ⟨hs, hu⟩ := (H.2 j (ready_mono hj hjk)).2 rfl
      have hsj := fun cs b => hsel j oj cs b hoj
      refine ⟨hs.of_same (execOp_put oj hsj a ok.dst v p1).symm (wanted_put oj a ok.dst v p1).symm, fun u hsh => ?_⟩
      have h4 := hu u hsh
      refine wpAnyQ_first hk hsel f (listed.setIfInBounds j true) (a.put oj.dst u) (free_set hfree hjun) (ready_mono hr (Ne.symm hjk)) (apart_keep hap (fun cs b => hsel k ok cs b hk) hy u) ?_
      rw [Array.setIfInBounds_comm _ _ hjk, ← Act.put_comm a v u p2]
      exact h4
/-- The one operation may be taken first. -/
theorem wpA_stir {QQ : Value → Act → Prop} {t : Nat} {ot : Oper} {w0 : World} (hw0 : C w0) (ht : ops[t]? = some ot) (hp : ∀ j o, ops[j]? = some o → j ≠ t → plainOp o = true) (hsel : ∀ (j : Nat) (o : Oper) cs b, ops[j]? = some o → o.op ≠ .select cs b) :
    ∀ (f : Nat) (listed : Array Bool) (a : Act),
      (∀ j oj, ops[j]? = some oj → j ≠ t → listed.getD j true = false → (∀ e ∈ oj.after, Region.binds md e = true → e.on ≠ t) → ot.apart ops oj = true) →
      t ∈ Region.ready md ops listed → Stirs P ops C Post ot a →
      (∀ u, (∃ w, C w ∧ Post u w) → wpAnyQ P md ops C (QQ u) f (listed.setIfInBounds t true) (a.put ot.dst u)) → wpA P md ops C Post QQ t ot (f + 1) listed a := by
  intro f
  induction f with
  | zero =>
    intro listed a _ hr hs H
    refine ⟨fun h => (by rw [h] at hr; cases hr), fun j hj => ⟨fun hjt => ?_, fun hjt => ?_⟩⟩
    · obtain ⟨u0, w', hc, hpo⟩ := (hs.2 w0 hw0).some
      have h1 := (H u0 ⟨w', hc, hpo⟩).1
      have := ready_mono hj hjt
      rw [h1] at this
      cases this
    · exact ⟨hs, H⟩
  | succ f ih =>
    intro listed a hfree hr hs H
    refine ⟨fun h => (by rw [h] at hr; cases hr), fun j hj => ⟨fun hjt => ?_, fun hjt => ?_⟩⟩
    · obtain ⟨u0, w', hc, hpo⟩ := (hs.2 w0 hw0).some
      obtain ⟨hjun, oj, hoj, hall⟩ := mem_ready.1 hj
      have hnot := not_waits (md := md) hall (mem_ready.1 hr).1
      have hap := hfree j oj hoj hjt hjun hnot
      obtain ⟨p1, p2, p3⟩ := Oper.apart_spec hap
      have hsj := fun cs b => hsel j oj cs b hoj
      have hst := fun cs b => hsel t ot cs b ht
      obtain ⟨v, hv, _⟩ := yieldsIn_of_qOp hoj ((H u0 ⟨w', hc, hpo⟩).2 j (ready_mono hj hjt))
      have hv := apart_back hap hsj hv
      refine hv.qOp hoj (ih (listed.setIfInBounds j true) _ (free_set hfree hjun) (ready_mono hr (Ne.symm hjt)) (hs.of_same (execOp_put ot hst a oj.dst v p3) (wanted_put ot a oj.dst v p3)) fun u hsh => ?_)
      obtain ⟨v', hv', hk'⟩ := yieldsIn_of_qOp hoj ((H u hsh).2 j (ready_mono hj hjt))
      have e := yields_unique (hp j oj hoj hjt) hw0 hv (apart_back hap hsj hv')
      subst e
      rw [Array.setIfInBounds_comm _ _ hjt, ← Act.put_comm a u v p2]
      exact hk'
    · subst hjt
      exact ⟨hs, H⟩
theorem wpA_lex {QQ : Value → Act → Prop} {t : Nat} {ot : Oper} {w0 : World} (hw0 : C w0) (ht : ops[t]? = some ot) (hp : ∀ j o, ops[j]? = some o → j ≠ t → plainOp o = true) (hs : Region.noSelect ops = true) (l2 : List Oper) :
    ∀ (l1 : List Oper) (k : Nat) (listed : Array Bool) (a : Act), k + l1.length = t → (∀ j, (l1 ++ ot :: l2)[j]? = ops[k + j]?) →
      Region.lexFrom md ops (l1 ++ ot :: l2).length k listed = true →
      wpQuiet P ops C (fun a => Stirs P ops C Post ot a ∧ ∀ u, (∃ w, C w ∧ Post u w) → wpQuiet P ops C (QQ u) l2 (a.put ot.dst u)) l1 a → wpA P md ops C Post QQ t ot (l1 ++ ot :: l2).length listed a
  | [], k, listed, a, hkt, hl, hB, h => by
    have hk : k = t := by simpa using hkt
    subst hk
    simp only [List.nil_append, List.length_cons, Region.lexFrom, Bool.and_eq_true] at hB ⊢
    obtain ⟨⟨hr, hf⟩, hB'⟩ := hB
    refine wpA_stir hw0 ht hp (Region.noSelect_spec hs) l2.length listed a (Region.free_spec ht hf) (by simpa using hr) h.1 fun u hsh => ?_
    exact wpAnyQ_lex hs l2 (k + 1) _ _ (fun j => by have := hl (j + 1); simpa [Nat.add_assoc, Nat.add_comm 1 j] using this) hB' (h.2 u hsh)
  | o :: l1, k, listed, a, hkt, hl, hB, h => by
    have h0 : ops[k]? = some o := by simpa using (hl 0).symm
    simp only [List.cons_append, List.length_cons, Region.lexFrom, Bool.and_eq_true] at hB ⊢
    obtain ⟨⟨hr, hf⟩, hB'⟩ := hB
    have hst : qOp P ops C k (wpQuiet P ops C (fun a => Stirs P ops C Post ot a ∧ ∀ u, (∃ w, C w ∧ Post u w) → wpQuiet P ops C (QQ u) l2 (a.put ot.dst u)) l1) a := by unfold qOp; simp only [h0]; exact h
    obtain ⟨v, hy, hK⟩ := yieldsIn_of_qOp h0 hst
    refine wpA_first ht h0 (by simp at hkt; omega) (Region.noSelect_spec hs) _ listed a (Region.free_spec h0 hf) (by simpa using hr) hy ?_
    exact wpA_lex hw0 ht hp hs l2 l1 (k + 1) _ _ (by simp at hkt ⊢; omega) (fun j => by have := hl (j + 1); simpa [Nat.add_assoc, Nat.add_comm 1 j] using this) hB' hK
/-- ONE WALK SERVES EVERY ORDER: the operations l1, the one that stirs, the operations l2. -/
theorem wp_region_one {id : Nat} {Q : Exit → Act → World → Prop} {a : Act} {w : World} (l1 l2 : List Oper) (ot : Oper) (hm : P.follows .mixedOrders = true) (hB : Region.lexB .any (l1 ++ ot :: l2).toArray = true)
    (hp1 : l1.all plainOp = true) (hp2 : l2.all plainOp = true) (hC : C { w with drawn := w.drawn + 1 })
    (h : wpQuiet P (l1 ++ ot :: l2).toArray C (fun a => Stirs P (l1 ++ ot :: l2).toArray C Post ot a ∧ ∀ u, (∃ w, C w ∧ Post u w) → wpQuiet P (l1 ++ ot :: l2).toArray C (fun a' => ∀ w', C w' → Post u w' → Q .normal a' w') l2 (a.put ot.dst u)) l1 a) :
    (Code.region id (l1 ++ ot :: l2).toArray true).wp P Q a w := by
  simp only [Region.lexB, Bool.and_eq_true] at hB
  have ht : (l1 ++ ot :: l2).toArray[l1.length]? = some ot := by simp
  have hp : ∀ j o, (l1 ++ ot :: l2).toArray[j]? = some o → j ≠ l1.length → plainOp o = true := by
    intro j o hj hne
    simp only [List.getElem?_toArray] at hj
    by_cases h1 : j < l1.length
    · rw [List.getElem?_append_left h1] at hj
      exact List.all_eq_true.1 hp1 o (List.mem_of_getElem? hj)
    · rw [List.getElem?_append_right (by omega)] at hj
      obtain ⟨d, hd⟩ : ∃ d, j - l1.length = d + 1 := ⟨j - l1.length - 1, by omega⟩
      rw [hd, List.getElem?_cons_succ] at hj
      exact List.all_eq_true.1 hp2 o (List.mem_of_getElem? hj)
  refine wp_region_any hm (wpAny_of_A (Post := Post) (QQ := fun u a' => ∀ w', C w' → Post u w' → Q .normal a' w') ht hp (fun u a' w' hc hpo hq => hq w' hc hpo) _ _ _ _ hC (by simp) ?_)
  have := wpA_lex (md := .any) (Post := Post) hC ht hp hB.1 l2 l1 0 (Array.replicate (l1 ++ ot :: l2).toArray.size false) a (by simp) (by simp) (by simpa using hB.2) h
  simpa using this
end
end Go.Proofs.YtkbpchdncljlbaaGreatDoor
namespace Go.Proofs.YtkbpchdncljlbaaGreatDoor
open Go Go.RowKit
/-- The class of worlds that extend a world, as the quiet walk wants it. -/
def Grows (w : World) : World → Prop := fun w' => ∃ p : Regrown, w' = Sort.grow (redrawn w p.d) p.os
theorem grows_iff {w w' : World} : (∃ p : Regrown, w' = Sort.grow (redrawn w p.d) p.os) ↔ Ext w w' :=
  ⟨fun ⟨p, hp⟩ => by subst hp; exact below_regrown w p.d p.os, fun h => regrown_of_below h⟩
theorem wp_region_mix {P : Program} {id : Nat} {Q : Exit → Act → World → Prop} {a : Act} {w : World} {l : List Oper} (t : Nat) (ot : Oper) (Post : Value → World → Prop) (hm : P.follows .mixedOrders = true) (hB : Region.lexB .any l.toArray = true)
    (hl : l = l.take t ++ ot :: l.drop (t + 1)) (hp1 : (l.take t).all plainOp = true) (hp2 : (l.drop (t + 1)).all plainOp = true)
    (h : wpQuiet P l.toArray (fun w' => ∃ p : Regrown, w' = Sort.grow (redrawn w p.d) p.os) (fun a =>
      (Region.wanted ot (yielded l.toArray a.tmps) = true ∧ ∀ w1, Ext w w1 → stirAt P ot a w1 (fun u w' => Ext w1 w' ∧ Post u w')) ∧
      ∀ u, (∃ w', Ext w w' ∧ Post u w') → wpQuiet P l.toArray (fun w' => ∃ p : Regrown, w' = Sort.grow (redrawn w p.d) p.os) (fun a' => ∀ w', Ext w w' → Post u w' → Q .normal a' w') (l.drop (t + 1)) (a.put ot.dst u)) (l.take t) a) :
    (Code.region id l.toArray true).wp P Q a w := by
  have hC : (fun w' => ∃ p : Regrown, w' = Sort.grow (redrawn w p.d) p.os) { w with drawn := w.drawn + 1 } := ⟨⟨w.drawn + 1, #[]⟩, by rw [Sort.grow_empty]; rfl⟩
  have hB' : Region.lexB .any (l.take t ++ ot :: l.drop (t + 1)).toArray = true := by rw [← hl]; exact hB
  have key := wp_region_one (P := P) (id := id) (Q := Q) (a := a) (w := w) (C := fun w' => ∃ p : Regrown, w' = Sort.grow (redrawn w p.d) p.os) (Post := Post) (l.take t) (l.drop (t + 1)) ot hm hB' hp1 hp2 hC ?_
  · rwa [← hl] at key
  · rw [← hl]
    refine wpQuiet_mono ?_ _ _ h
    rintro a' ⟨⟨hw, hs⟩, hu⟩
    refine ⟨⟨hw, fun w1 h1 => ?_⟩, fun u ⟨w', h1, h2⟩ => ?_⟩
    · have h1' := grows_iff.1 h1
      have := hs w1 h1'
      exact stirAt.mono this fun u w' ⟨e1, e2⟩ => ⟨grows_iff.2 (h1'.trans e1), e2⟩
    · refine wpQuiet_mono ?_ _ _ (hu u ⟨w', grows_iff.1 h1, h2⟩)
      intro a'' hq w'' hc hpo
      exact hq w'' (grows_iff.1 hc) hpo
where
  wpQuiet_mono {P : Program} {ops : Array Oper} {C : World → Prop} {Q Q' : Act → Prop} (hq : ∀ a, Q a → Q' a) : ∀ (l : List Oper) (a : Act), wpQuiet P ops C Q l a → wpQuiet P ops C Q' l a
    | [], a, h => hq a h
    | o :: l, a, h => by
      have h' : if Region.wanted o (yielded ops a.tmps) then o.quiet P a C (wpQuiet P ops C Q l) else wpQuiet P ops C Q l (a.put o.dst undef) := h
      show if Region.wanted o (yielded ops a.tmps) then o.quiet P a C (wpQuiet P ops C Q' l) else wpQuiet P ops C Q' l (a.put o.dst undef)
      by_cases hw : Region.wanted o (yielded ops a.tmps) = true
      · rw [if_pos hw] at h' ⊢
        exact Oper.quiet_mono (fun a' h'' => wpQuiet_mono hq l a' h'') h'
      · rw [if_neg hw] at h' ⊢
        exact wpQuiet_mono hq l _ h'
  stirAt.mono {P : Program} {o : Oper} {a : Act} {w : World} {K K' : Value → World → Prop} (h : stirAt P o a w K) (hk : ∀ u w', K u w' → K' u w') : stirAt P o a w K' := by
    unfold stirAt at *
    generalize (execOp a.eval o).run P w = r at *
    cases r with
    | ok n w' =>
      cases n <;> simp only [stirUpon] at h ⊢
      case value v => exact hk _ _ h
      case skip => exact hk _ _ h
      case enter f args => exact Calls.mono h fun e w'' ⟨v, he, hv⟩ => ⟨v, he, hk _ _ hv⟩
    | halt x w' => simp only [stirUpon] at h
end Go.Proofs.YtkbpchdncljlbaaGreatDoor
end
section
namespace Go.Proofs.YtkbpchdncljlbaaGreatDoor
open Go Go.RowKit Go.Proofs
set_option maxHeartbeats 400000
def BeforeRes (B : Nat) (w : World) (o : Option (List Int)) (e : Ending) (w' : World) : Prop :=
  ∃ u ok, e = .returned (.tuple #[u, .bool ok]) ∧ ok = o.isSome ∧ (∀ y, o = some y → OwnInts B w' u y) ∧ (∃ A n c, u = .slice A n c) ∧ Ext w w'
theorem beforeRes_none {B : Nat} {w w' : World} {o : Option (List Int)} {A : Option Addr} {n c : Nat} (ho : o = none) (hx : Ext w w') : BeforeRes B w o (.returned (.tuple #[.slice A n c, .bool false])) w' :=
  ⟨_, false, rfl, (by rw [ho]; rfl), (fun y hy => by rw [ho] at hy; cases hy), ⟨_, _, _, rfl⟩, hx⟩
theorem beforeRes_some {B : Nat} {w w' : World} {o : Option (List Int)} {y : List Int} {A : Option Addr} {n c : Nat} (ho : o = some y) (hu : OwnInts B w' (.slice A n c) y) (hx : Ext w w') : BeforeRes B w o (.returned (.tuple #[.slice A n c, .bool true])) w' :=
  ⟨_, true, rfl, (by rw [ho]; rfl), (fun z hz => by rw [ho] at hz; injection hz with hz; subst hz; exact hu), ⟨_, _, _, rfl⟩, hx⟩
end Go.Proofs.YtkbpchdncljlbaaGreatDoor
namespace Go.Proofs.YtkbpchdncljlbaaGreatDoor
open Go Go.RowKit Go.Proofs
set_option maxHeartbeats 400000
/-- A list, and a further row if it is new. -/
def addNew (xss : List (List Int)) (o : Option (List Int)) : List (List Int) :=
  match o with
  | some y => if y ∈ xss then xss else xss ++ [y]
  | none => xss
/-- The nodes before a node, by the first k rules. -/
def predsTo (m : MachD) (x : List Int) : Nat → List (List Int)
  | 0 => []
  | k + 1 => match m.rules[k]? with
    | some r => if r = noR then predsTo m x k else addNew (predsTo m x k) (before x ((k : Int) / m.sy) ((k : Int) % m.sy) r)
    | none => predsTo m x k
theorem predsTo_no {m : MachD} {x : List Int} {k : Nat} (hk : k < m.rules.length) (h : m.rules[k] = noR) : predsTo m x (k + 1) = predsTo m x k := by
  simp [predsTo, hk, h]
theorem predsTo_yes {m : MachD} {x : List Int} {k : Nat} (hk : k < m.rules.length) (h : ¬ m.rules[k] = noR) : predsTo m x (k + 1) = addNew (predsTo m x k) (before x ((k : Int) / m.sy) ((k : Int) % m.sy) m.rules[k]) := by
  simp [predsTo, hk, h]
theorem addNew_length (xss : List (List Int)) (o : Option (List Int)) : (addNew xss o).length ≤ xss.length + 1 := by
  unfold addNew
  split
  · split <;> simp
  · omega
theorem predsTo_length (m : MachD) (x : List Int) (k : Nat) : (predsTo m x k).length ≤ k := by
  induction k with
  | zero => simp [predsTo]
  | succ k ih =>
    unfold predsTo
    split
    · split
      · omega
      · exact Nat.le_trans (addNew_length _ _) (by omega)
    · omega
end Go.Proofs.YtkbpchdncljlbaaGreatDoor
namespace Go.Proofs.YtkbpchdncljlbaaGreatDoor
open Go Go.RowKit Go.Proofs
set_option maxHeartbeats 400000
/-- What the program's statement leaves: a variable with the node before, and whether there is one. -/
def CutRes (w2 : World) (o : Option (List Int)) (s8 s9 : Value) (wx : World) : Prop :=
  ∃ bv u, s8 = .pointer (some ⟨bv, 0, none⟩) ∧ s9 = .bool o.isSome ∧ Blk wx bv 48 #[u] ∧ Ext w2 wx ∧ w2.heap.size ≤ bv ∧ (∀ y, o = some y → OwnInts w2.heap.size wx u y) ∧ (∃ A n c, u = .slice A n c)
end Go.Proofs.YtkbpchdncljlbaaGreatDoor
end
