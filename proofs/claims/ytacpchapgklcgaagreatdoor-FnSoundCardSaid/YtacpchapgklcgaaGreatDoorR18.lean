/- Plain words on the search for nodes: every node is valid, the two tests on a node that may begin agree, the starts are distinct. No program stands here.
Plain words on segments: where a machine halts from the blank tape, a node that may begin is found. No program stands here.
Plain words on runs of a machine: a run of configurations that halts is a run on a tape that halts. -/
import Derived.Test.YtacpchapgklcgaaGreatDoorR17
import Derived.Test.YtacpchapgklcgaaGreatDoorR16
section
namespace Go.Proofs.YtacpchapgklcgaaGreatDoor
open Go Go.RowKit Go.Proofs
structure MOk (m : MachD) : Prop where
  sy1 : 2 ≤ m.sy
  sy2 : m.sy ≤ 6
  st1 : 1 ≤ m.st
  st2 : m.st ≤ 1000
  len : (m.rules.length : Int) = m.sy * m.st
  len2 : m.rules.length ≤ 6000
  mv : ∀ r ∈ m.rules, ¬ r = noR → -1 ≤ r.m ∧ r.m ≤ 1
theorem MOk.of {m : MachD} (h : machOk m = true) : MOk m := by
  simp only [machOk, inB, Bool.and_eq_true, decide_eq_true_eq, List.all_eq_true] at h
  obtain ⟨⟨⟨⟨a1, a2⟩, b1, b2⟩, c⟩, d⟩ := h
  have := mul_bounds a1 a2 b1 b2
  refine ⟨a1, a2, b1, b2, c, by omega, fun r hr hn => ?_⟩
  have := d r hr
  simp only [ruleOk, hn, decide_false, Bool.false_or, Bool.and_eq_true, Bool.or_eq_true, beq_iff_eq] at this
  omega
theorem MOk.quo {m : MachD} (h : MOk m) {k : Int} (h0 : 0 ≤ k) (hk : k < m.rules.length) : (0 ≤ k / m.sy ∧ k / m.sy < m.st) ∧ 0 ≤ k % m.sy ∧ k % m.sy < m.sy := by
  have h1 := h.sy1
  refine ⟨⟨Int.ediv_nonneg h0 (by omega), ?_⟩, Int.emod_nonneg _ (by omega), Int.emod_lt_of_pos _ (by omega)⟩
  exact Int.ediv_lt_of_lt_mul (by omega) (by have := h.len; rw [Int.mul_comm]; omega)
theorem NodeOk.fits {m : MachD} (hm : MOk m) {n : Nat} (n1 : 1 ≤ n) (n2 : n ≤ 9) {x : List Int} (h : NodeOk m.sy m.st n x) : Fits x := by
  have := h.len
  refine ⟨by omega, by omega, fun z hz => ?_⟩
  obtain ⟨j, hj, rfl⟩ := List.getElem_of_mem hz
  have e : x.getD j 0 = x[j] := by rw [List.getD_eq_getElem?_getD, List.getElem?_eq_getElem hj]; rfl
  rw [← e]
  have a1 := hm.sy2
  have a2 := hm.st2
  have b1 := h.lo
  have b2 := h.hi
  match j, hj with
  | 0, _ => omega
  | 1, _ =>
    by_cases c : x.getD 0 0 < 0 ∨ x.getD 0 0 = n
    · have := h.out c; omega
    · have := h.ins c; omega
  | j + 2, hj => have := h.cells (j + 2) (by omega) (by omega); omega
theorem predsTo_ok {m : MachD} (hm : MOk m) {n : Nat} (n1 : 1 ≤ n) {x : List Int} (h : NodeOk m.sy m.st n x) (k : Nat) (hk : k ≤ m.rules.length) : ∀ y ∈ predsTo m x k, NodeOk m.sy m.st n y := by
  induction k with
  | zero => intro y hy; simp [predsTo] at hy
  | succ k ih =>
    have ih := ih (by omega)
    by_cases he : m.rules[k] = noR
    · rw [predsTo_no (by omega) he]; exact ih
    · rw [predsTo_yes (by omega) he]
      unfold addNew
      split
      · rename_i y hb
        have q := hm.quo (k := k) (by omega) (by omega)
        have hy := before_ok h n1 q.1 q.2 hb
        split
        · exact ih
        · intro z hz
          rcases List.mem_append.1 hz with c | c
          · exact ih z c
          · simp at c; subst c; exact hy
      · exact ih
theorem starts_ok {m : MachD} (hm : MOk m) {n : Nat} (n1 : 1 ≤ n) : ∀ x ∈ startsIn m n, NodeOk m.sy m.st n x := by
  intro x hx
  simp only [startsIn, startsOf, partsOf, List.mem_map] at hx
  obtain ⟨p, ⟨z, hz, rfl⟩, rfl⟩ := hx
  obtain ⟨j, hj, rfl⟩ := List.getElem_of_mem hz
  have hb := freeTo_get m.rules m.rules.length j hj
  generalize (freeTo m.rules m.rules.length)[j] = z at *
  have q := hm.quo hb.1 hb.2
  have hlen : (List.replicate (n + 2) (-1 : Int)).length = n + 2 := by simp
  refine ⟨by simp, ?_, ?_, ?_, ?_, ?_⟩
  · rw [getD_segNode_zero _ _ _ _ (by omega)]; omega
  · rw [getD_segNode_zero _ _ _ _ (by omega)]; omega
  · rw [getD_segNode_zero _ _ _ _ (by omega)]; intro hh; omega
  · rw [getD_segNode_one _ _ _ _ (by omega)]; intro _; exact q.1
  · intro j h2 h3
    rcases getD_segNode (List.replicate (n + 2) (-1 : Int)) ((n : Int) / 2) (z / m.sy) (z % m.sy) j h2 with e | e
    · simp only at e ⊢
      rw [e, List.getD_eq_getElem?_getD, List.getElem?_replicate, if_pos (by omega)]
      have := hm.sy1
      simp; omega
    · simp only at e ⊢
      rw [e]; omega
theorem addAll_all {p : List Int → Prop} {s : List (List Int) × Bool} {l : List (List Int)} (hs : ∀ y ∈ s.1, p y) (hl : ∀ y ∈ l, p y) : ∀ y ∈ (addAll s l).1, p y := by
  induction l generalizing s with
  | nil => exact hs
  | cons a l ih =>
    refine ih ?_ fun y hy => hl y (List.mem_cons_of_mem _ hy)
    unfold addOne
    split
    · exact hs
    · intro y hy
      rcases List.mem_append.1 hy with h | h
      · exact hs y h
      · simp at h; subst h; exact hl _ List.mem_cons_self
/-- One step of the search, and the search after k steps. -/
def stepS (m : MachD) (s : List (List Int) × Bool) (k : Nat) : List (List Int) × Bool := addAll s (predsTo m (s.1.getD k []) m.rules.length)
def iterS (m : MachD) (n : Nat) : Nat → List (List Int) × Bool
  | 0 => addAll ([], false) (startsIn m n)
  | k + 1 => stepS m (iterS m n k) k
theorem iterS_ok {m : MachD} (hm : MOk m) {n : Nat} (n1 : 1 ≤ n) (k : Nat) (hc : ∀ j < k, j < (iterS m n j).1.length) : ∀ x ∈ (iterS m n k).1, NodeOk m.sy m.st n x := by
  induction k with
  | zero => exact addAll_all (fun y hy => by simp at hy) (starts_ok hm n1)
  | succ k ih =>
    have ih := ih fun j hj => hc j (by omega)
    have hk := hc k (by omega)
    refine addAll_all ih (predsTo_ok hm n1 ?_ _ (Nat.le_refl _))
    rw [List.getD_eq_getElem?_getD, List.getElem?_eq_getElem hk]
    exact ih _ (List.getElem_mem hk)
/-- The search goes on. -/
def goesS (m : MachD) (n k : Nat) : Prop := k < (iterS m n k).1.length ∧ (iterS m n k).1.length ≤ 2000
/-- The search ends after k steps. -/
def EndsS (m : MachD) (n k : Nat) : Prop := (∀ j < k, goesS m n j) ∧ ¬ goesS m n k
theorem EndsS.unique {m : MachD} {n k k' : Nat} (h : EndsS m n k) (h' : EndsS m n k') : k = k' := by
  rcases Nat.lt_trichotomy k k' with c | c | c
  · exact absurd (h'.1 k c) h.2
  · exact c
  · exact absurd (h.1 k' c) h'.2
theorem mayS_eq {sy st : Int} {n : Nat} {x : List Int} (h : NodeOk sy st n x) : mayS x = mayB x := by
  unfold mayS mayB
  congr 1
  rw [Bool.eq_iff_iff]
  simp only [List.all_eq_true, decide_eq_true_eq, inB, Bool.and_eq_true]
  have key : ∀ z ∈ x.drop 2, -1 ≤ z := by
    intro z hz
    obtain ⟨j, hj, rfl⟩ := List.getElem_of_mem hz
    have hj' : j + 2 < x.length := by simp at hj; omega
    have := (h.cells (j + 2) (by omega) (by have := h.len; omega)).1
    rw [List.getD_eq_getElem?_getD, List.getElem?_eq_getElem hj'] at this
    simp only [Option.getD_some] at this
    simp only [List.getElem_drop]
    have e : x[2 + j]'(by omega) = x[j + 2] := by congr 1; omega
    rw [e]; exact this
  constructor
  · exact fun hh z hz => ⟨key z hz, hh z hz⟩
  · exact fun hh z hz => (hh z hz).2
/-- Distinct nodes are taken as they are. -/
theorem addAll_distinct : ∀ (l : List (List Int)) (s : List (List Int) × Bool), (∀ x ∈ l, x ∉ s.1) → l.Pairwise (· ≠ ·) → addAll s l = (s.1 ++ l, s.2 || l.any mayB)
  | [], s, _, _ => by simp [addAll]
  | a :: l, s, h1, h2 => by
    rw [List.pairwise_cons] at h2
    have e : addOne s a = (s.1 ++ [a], s.2 || mayB a) := by unfold addOne; rw [if_neg (h1 a List.mem_cons_self)]
    show addAll (addOne s a) l = _
    rw [addAll_distinct l _ ?_ h2.2, e]
    · simp [Bool.or_assoc]
    · intro x hx
      rw [e]
      simp only [List.mem_append, List.mem_singleton, not_or]
      exact ⟨h1 x (List.mem_cons_of_mem _ hx), fun he => h2.1 x hx he.symm⟩
theorem freeTo_distinct (rs : List RuleD) (k : Nat) : (freeTo rs k).Pairwise (· ≠ ·) := by
  unfold freeTo
  refine List.Pairwise.filterMap _ ?_ (List.nodup_range (n := k))
  intro a a' hne b hb b' hb'
  split at hb <;> simp at hb
  split at hb' <;> simp at hb'
  omega
theorem starts_distinct {m : MachD} (hm : MOk m) {n : Nat} (n1 : 1 ≤ n) : (startsIn m n).Pairwise (· ≠ ·) := by
  simp only [startsIn, startsOf, partsOf, List.map_map]
  have h1 := hm.sy1
  refine List.Pairwise.map _ ?_ (freeTo_distinct m.rules m.rules.length)
  intro a b hne he
  simp only [Function.comp] at he
  have hlen : (List.replicate (n + 2) (-1 : Int)).length = n + 2 := by simp
  have e1 := congrArg (fun l => List.getD l 1 0) he
  simp only [getD_segNode_one _ _ _ _ (show 3 ≤ (List.replicate (n + 2) (-1 : Int)).length by omega)] at e1
  have e2 := congrArg (fun l => List.getD l (2 + (n : Int) / 2).toNat 0) he
  have key : ∀ p a : Int, (segNode (List.replicate (n + 2) (-1)) ((n : Int) / 2) p a).getD (2 + (n : Int) / 2).toNat 0 = a := by
    intro p a
    unfold segNode
    rw [if_pos (by simp; omega), List.getD_eq_getElem?_getD, List.getElem?_set_self (by simp; omega)]
    rfl
  simp only [key] at e2
  apply hne
  have q1 := Int.mul_ediv_add_emod a m.sy
  have q2 := Int.mul_ediv_add_emod b m.sy
  rw [e1, e2] at q1
  omega
theorem iterS_zero {m : MachD} (hm : MOk m) {n : Nat} (n1 : 1 ≤ n) : iterS m n 0 = (startsIn m n, (startsIn m n).any mayB) := by
  show addAll ([], false) (startsIn m n) = _
  rw [addAll_distinct _ _ (fun x _ => by simp) (starts_distinct hm n1)]
  simp
end Go.Proofs.YtacpchapgklcgaaGreatDoor
end
section
namespace Go.Proofs.YtacpchapgklcgaaGreatDoor
open Go Go.RowKit Go.Proofs
/-- A node of n cells from place o on covers a tape with a head and a state. -/
structure Covers (n : Nat) (o : Int) (A : Int → Int) (p q : Int) (x : List Int) : Prop where
  len : x.length = n + 2
  ins : 0 ≤ p - o → p - o < n → x.getD 0 0 = p - o ∧ x.getD 1 0 = q
  left : p - o < 0 → x.getD 0 0 = -1 ∧ x.getD 1 0 = -1
  right : (n : Int) ≤ p - o → x.getD 0 0 = n ∧ x.getD 1 0 = -1
  cells : ∀ i : Nat, i < n → x.getD (i + 2) 0 = -1 ∨ x.getD (i + 2) 0 = A (o + i)
theorem segNode_in {x : List Int} {h p a : Int} (h0 : 0 ≤ h) (h1 : h ≤ (x.length : Int) - 3) (i : Nat) : (segNode x h p a).getD (i + 2) 0 = if (i : Int) = h then a else x.getD (i + 2) 0 := by
  unfold segNode
  rw [if_pos ⟨h0, h1⟩]
  simp only [List.getD_eq_getElem?_getD]
  by_cases c : (i : Int) = h
  · have e : (2 + h).toNat = i + 2 := by omega
    rw [if_pos c, e, List.getElem?_set_self (by simp; omega)]
    rfl
  · rw [if_neg c, List.getElem?_set_ne (by omega), List.getElem?_set_ne (by omega), List.getElem?_set_ne (by omega)]
theorem segNode_out {x : List Int} {h p a : Int} (h0 : h < 0 ∨ (x.length : Int) - 3 < h) (i : Nat) : (segNode x h p a).getD (i + 2) 0 = x.getD (i + 2) 0 := by
  unfold segNode
  rw [if_neg (by omega)]
  simp only [List.getD_eq_getElem?_getD]
  rw [List.getElem?_set_ne (by omega), List.getElem?_set_ne (by omega)]
/-- One step back. -/
theorem covers_step {n : Nat} {o : Int} {A A' : Int → Int} {p q a : Int} {r : RuleD} {x : List Int} (hn : 1 ≤ n) (hq : 0 ≤ r.n) (hm : r.m = 1 ∨ r.m = -1) (hA : ∀ z, A' z = if z = p then r.w else A z) (ha : A p = a)
    (hx : Covers n o A' (p + r.m) r.n x) : Covers n o A p q x ∨ ∃ y, before x q a r = some y ∧ Covers n o A p q y := by
  have hl := hx.len
  have same : ∀ z, z ≠ p → A' z = A z := fun z hz => by rw [hA, if_neg hz]
  have hcell : ∀ i : Nat, i < n → (i : Int) ≠ p - o → x.getD (i + 2) 0 = -1 ∨ x.getD (i + 2) 0 = A (o + i) := fun i hi hne => by
    rcases hx.cells i hi with c | c
    · exact .inl c
    · exact .inr (by rw [c, same _ (by omega)])
  by_cases hin : 0 ≤ p - o ∧ p - o < n
  · right
    have hx0 : x.getD 0 0 - r.m = p - o := by
      by_cases c1 : p + r.m - o < 0
      · have := hx.left c1; omega
      · by_cases c2 : (n : Int) ≤ p + r.m - o
        · have := hx.right c2; omega
        · have := hx.ins (by omega) (by omega); omega
    have hx1 : ¬ (0 ≤ x.getD 1 0 ∧ r.n ≠ x.getD 1 0) := by
      by_cases c1 : p + r.m - o < 0
      · have := hx.left c1; omega
      · by_cases c2 : (n : Int) ≤ p + r.m - o
        · have := hx.right c2; omega
        · have := (hx.ins (by omega) (by omega)).2; omega
    have hi : ((p - o).toNat : Int) = p - o := by omega
    have hc := hx.cells (p - o).toNat (by omega)
    have e2 : (2 + (p - o)).toNat = (p - o).toNat + 2 := by omega
    have hw : x.getD (2 + (p - o)).toNat 0 = r.w ∨ x.getD (2 + (p - o)).toNat 0 = -1 := by
      rw [e2]
      rcases hc with c | c
      · exact .inr c
      · refine .inl ?_
        rw [c, hA, if_pos (by omega)]
    refine ⟨segNode x (p - o) q a, ?_, ?_⟩
    · unfold before
      rw [hx0, if_neg (by omega), if_neg (by omega), if_pos hw]
    · refine ⟨by simp [hl], fun _ _ => ⟨getD_segNode_zero _ _ _ _ (by omega), getD_segNode_one _ _ _ _ (by omega)⟩, fun h => by omega, fun h => by omega, fun i hi' => ?_⟩
      rw [segNode_in (by omega) (by omega)]
      by_cases c : (i : Int) = p - o
      · rw [if_pos c]
        exact .inr (by rw [← ha]; congr 1; omega)
      · rw [if_neg c]
        exact hcell i hi' c
  · by_cases hin' : 0 ≤ p + r.m - o ∧ p + r.m - o < n
    · right
      obtain ⟨e0, e1⟩ := hx.ins hin'.1 hin'.2
      have hx0 : x.getD 0 0 - r.m = p - o := by omega
      have hend : p - o = -1 ∨ p - o = (x.length : Int) - 2 := by omega
      refine ⟨segNode x (p - o) (-1) 0, ?_, ?_⟩
      · unfold before
        rw [hx0, if_neg (by omega), if_pos hend, if_pos (by omega)]
      · refine ⟨by simp [hl], fun h1 h2 => by omega, fun h => ?_, fun h => ?_, fun i hi => ?_⟩
        · exact ⟨by rw [getD_segNode_zero _ _ _ _ (by omega)]; omega, getD_segNode_one _ _ _ _ (by omega)⟩
        · exact ⟨by rw [getD_segNode_zero _ _ _ _ (by omega)]; omega, getD_segNode_one _ _ _ _ (by omega)⟩
        · rw [segNode_out (by omega)]
          exact hcell i hi (by omega)
    · left
      refine ⟨hl, fun h1 h2 => by omega, fun h => hx.left (by omega), fun h => hx.right (by omega), fun i hi => hcell i hi (by omega)⟩
theorem mem_addNew {xss : List (List Int)} {y : List Int} : y ∈ addNew xss (some y) := by
  unfold addNew
  split
  · rename_i z hz
    injection hz with hz
    subst hz
    split <;> simp [*]
  · rename_i h; cases h
theorem addNew_sub {xss : List (List Int)} {o : Option (List Int)} {z : List Int} (h : z ∈ xss) : z ∈ addNew xss o := by
  unfold addNew
  split
  · split
    · exact h
    · exact List.mem_append_left _ h
  · exact h
theorem predsTo_sub {m : MachD} {x z : List Int} {k : Nat} (h : z ∈ predsTo m x k) : ∀ j, k ≤ j → z ∈ predsTo m x j := by
  intro j hj
  induction j with
  | zero => obtain rfl : k = 0 := by omega
            exact h
  | succ j ih =>
    by_cases c : k = j + 1
    · subst c; exact h
    · have := ih (by omega)
      show z ∈ (match m.rules[j]? with | some r => if r = noR then predsTo m x j else addNew (predsTo m x j) (before x ((j : Int) / m.sy) ((j : Int) % m.sy) r) | none => predsTo m x j)
      split
      · split
        · exact this
        · exact addNew_sub this
      · exact this
theorem before_mem {m : MachD} {x y : List Int} {k : Nat} (hk : k < m.rules.length) (hr : ¬ m.rules[k] = noR) (h : before x ((k : Int) / m.sy) ((k : Int) % m.sy) m.rules[k] = some y) : y ∈ predsTo m x m.rules.length := by
  refine predsTo_sub (k := k + 1) ?_ _ (by omega)
  rw [predsTo_yes hk hr, h]
  exact mem_addNew
/-- A run of a machine from the blank tape that halts: tapes, heads, states. -/
structure HaltRun (m : MachD) (T : Nat) (A : Nat → Int → Int) (p q : Nat → Int) : Prop where
  blank : ∀ z, A 0 z = 0
  first : q 0 = 0
  sym : ∀ t, t ≤ T → 0 ≤ A t (p t) ∧ A t (p t) < m.sy
  st : ∀ t, t ≤ T → 0 ≤ q t
  step : ∀ t, t < T → ∃ k, ∃ hk : k < m.rules.length, (k : Int) = q t * m.sy + A t (p t) ∧ ¬ m.rules[k] = noR ∧ p (t + 1) = p t + m.rules[k].m ∧ q (t + 1) = m.rules[k].n ∧ ∀ z, A (t + 1) z = if z = p t then m.rules[k].w else A t z
  halt : ∃ k, ∃ hk : k < m.rules.length, (k : Int) = q T * m.sy + A T (p T) ∧ m.rules[k] = noR
theorem idx_parts {sy q a k : Int} (h1 : 0 ≤ a) (h2 : a < sy) (hk : k = q * sy + a) : k / sy = q ∧ k % sy = a := by
  subst hk
  constructor
  · rw [Int.add_comm, Int.add_mul_ediv_right _ _ (by omega), Int.ediv_eq_zero_of_lt h1 h2]; omega
  · rw [Int.add_comm, Int.add_mul_emod_self_right, Int.emod_eq_of_lt h1 h2]
theorem mem_starts {m : MachD} {n k : Nat} (hk : k < m.rules.length) (h : m.rules[k] = noR) : segNode (List.replicate (n + 2) (-1)) ((n : Int) / 2) ((k : Int) / m.sy) ((k : Int) % m.sy) ∈ startsIn m n := by
  simp only [startsIn, startsOf, partsOf, List.map_map, List.mem_map]
  refine ⟨(k : Int), ?_, rfl⟩
  unfold freeTo
  rw [List.mem_filterMap]
  exact ⟨k, List.mem_range.2 hk, by rw [List.getElem?_eq_getElem hk, h]; simp⟩
theorem mv1 {m : MachD} (h : machOk m = true) : ∀ r ∈ m.rules, ¬ r = noR → r.m = 1 ∨ r.m = -1 := by
  intro r hr hn
  simp only [machOk, Bool.and_eq_true, List.all_eq_true] at h
  have := h.2 r hr
  simp only [ruleOk, hn, decide_false, Bool.false_or, Bool.and_eq_true, Bool.or_eq_true, beq_iff_eq] at this
  exact this.1.2
theorem halts_may {m : MachD} (hm : machOk m = true) {n : Nat} (n1 : 1 ≤ n) {L : List (List Int)} (closed : ∀ x ∈ L, ∀ y ∈ predsTo m x m.rules.length, y ∈ L) (starts : ∀ x ∈ startsIn m n, x ∈ L)
    {T : Nat} {A : Nat → Int → Int} {p q : Nat → Int} (h : HaltRun m T A p q) : ∃ x ∈ L, mayB x = true := by
  have key : ∀ t, t ≤ T → ∃ x ∈ L, Covers n (p T - (n : Int) / 2) (A (T - t)) (p (T - t)) (q (T - t)) x := by
    intro t
    induction t with
    | zero =>
      intro _
      obtain ⟨k, hk, e, hr⟩ := h.halt
      obtain ⟨s1, s2⟩ := h.sym T (Nat.le_refl _)
      obtain ⟨d1, d2⟩ := idx_parts s1 s2 e
      refine ⟨_, starts _ (mem_starts hk hr), ?_⟩
      rw [d1, d2]
      have hl : (List.replicate (n + 2) (-1 : Int)).length = n + 2 := by simp
      refine ⟨by simp, fun _ _ => ⟨?_, ?_⟩, fun h => by simp at h; omega, fun h => by simp at h; omega, fun i hi => ?_⟩
      · rw [getD_segNode_zero _ _ _ _ (by omega)]; simp; omega
      · rw [getD_segNode_one _ _ _ _ (by omega)]; simp
      · rw [segNode_in (by omega) (by rw [hl]; omega)]
        by_cases c : (i : Int) = (n : Int) / 2
        · rw [if_pos c]
          right
          simp only [Nat.sub_zero]
          congr 1
          omega
        · rw [if_neg c]
          left
          rw [List.getD_eq_getElem?_getD, List.getElem?_replicate, if_pos (by omega)]
          rfl
    | succ t ih =>
      intro ht
      obtain ⟨x, hx, hc⟩ := ih (by omega)
      obtain ⟨k, hk, e, hr, hp, hq, hA⟩ := h.step (T - (t + 1)) (by omega)
      have es : T - (t + 1) + 1 = T - t := by omega
      rw [es] at hp hq hA
      obtain ⟨s1, s2⟩ := h.sym (T - (t + 1)) (by omega)
      obtain ⟨d1, d2⟩ := idx_parts s1 s2 e
      have hq0 := h.st (T - t) (by omega)
      have hmv : m.rules[k].m = 1 ∨ m.rules[k].m = -1 := mv1 hm _ (List.getElem_mem hk) hr
      rw [hp, hq] at hc
      rcases covers_step (q := q (T - (t + 1))) n1 (by rw [← hq]; exact hq0) hmv hA rfl hc with c | ⟨y, hy, c⟩
      · exact ⟨x, hx, c⟩
      · refine ⟨y, closed x hx y (before_mem hk hr ?_), c⟩
        rw [d1, d2]
        exact hy
  obtain ⟨x, hx, hc⟩ := key T (Nat.le_refl _)
  rw [Nat.sub_self, h.first] at hc
  refine ⟨x, hx, ?_⟩
  unfold mayB
  have hl := hc.len
  have h1 : x.getD 1 0 ≤ 0 := by
    by_cases c1 : p 0 - (p T - (n : Int) / 2) < 0
    · have := (hc.left c1).2; omega
    · by_cases c2 : (n : Int) ≤ p 0 - (p T - (n : Int) / 2)
      · have := (hc.right c2).2; omega
      · have := (hc.ins (by omega) (by omega)).2; omega
  simp only [Bool.and_eq_true, decide_eq_true_eq, List.all_eq_true]
  refine ⟨h1, fun z hz => ?_⟩
  obtain ⟨j, hj, rfl⟩ := List.getElem_of_mem hz
  have hj' : j + 2 < x.length := by simp at hj; omega
  have := hc.cells j (by omega)
  rw [h.blank, List.getD_eq_getElem?_getD, List.getElem?_eq_getElem hj'] at this
  simp only [Option.getD_some] at this
  have e : (x.drop 2)[j] = x[j + 2] := by simp [Nat.add_comm]
  rw [e]
  unfold inB
  simp
  omega
/-- The flag of the search says whether a node may begin. -/
theorem addAll_flag {s : List (List Int) × Bool} (l : List (List Int)) (h : s.2 = s.1.any mayB) : (addAll s l).2 = (addAll s l).1.any mayB := by
  induction l generalizing s with
  | nil => exact h
  | cons a l ih =>
    refine ih ?_
    unfold addOne
    split
    · exact h
    · simp [h]
theorem iterS_flag (m : MachD) (n k : Nat) : (iterS m n k).2 = (iterS m n k).1.any mayB := by
  induction k with
  | zero => exact addAll_flag _ (by simp)
  | succ k ih => exact addAll_flag _ ih
theorem addAll_keeps (s : List (List Int) × Bool) (l : List (List Int)) : s.1 <+: (addAll s l).1 := by
  induction l generalizing s with
  | nil => exact List.prefix_refl _
  | cons a l ih =>
    refine List.IsPrefix.trans ?_ (ih (addOne s a))
    unfold addOne
    split
    · exact List.prefix_refl _
    · exact List.prefix_append _ _
theorem addAll_has (s : List (List Int) × Bool) (l : List (List Int)) : ∀ x ∈ l, x ∈ (addAll s l).1 := by
  induction l generalizing s with
  | nil => intro x hx; simp at hx
  | cons a l ih =>
    intro x hx
    rcases List.mem_cons.1 hx with e | e
    · subst e
      refine (addAll_keeps (addOne s x) l).subset ?_
      unfold addOne
      split
      · assumption
      · simp
    · exact ih (addOne s a) x e
theorem iterS_keeps (m : MachD) (n j : Nat) : ∀ k, j ≤ k → (iterS m n j).1 <+: (iterS m n k).1 := by
  intro k hk
  induction k with
  | zero => obtain rfl : j = 0 := by omega
            exact List.prefix_refl _
  | succ k ih =>
    by_cases c : j = k + 1
    · subst c; exact List.prefix_refl _
    · exact (ih (by omega)).trans (addAll_keeps _ _)
/-- What is found at the end is closed. -/
theorem ends_closed {m : MachD} {n k : Nat} (h : EndsS m n k) (hl : (iterS m n k).1.length ≤ 2000) : ∀ x ∈ (iterS m n k).1, ∀ y ∈ predsTo m x m.rules.length, y ∈ (iterS m n k).1 := by
  intro x hx y hy
  obtain ⟨j, hj, rfl⟩ := List.getElem_of_mem hx
  have hjk : j < k := by
    by_cases c : j < k
    · exact c
    · exact absurd ⟨by omega, hl⟩ h.2
  have hj' := (h.1 j hjk).1
  have hp := iterS_keeps m n j k (by omega)
  have e : (iterS m n j).1[j] = (iterS m n k).1[j] := hp.getElem hj'
  refine (iterS_keeps m n (j + 1) k (by omega)).subset ?_
  show y ∈ (stepS m (iterS m n j) j).1
  unfold stepS
  refine addAll_has _ _ y ?_
  rw [List.getD_eq_getElem?_getD, List.getElem?_eq_getElem hj', e]
  exact hy
theorem ends_starts (m : MachD) (n k : Nat) : ∀ x ∈ startsIn m n, x ∈ (iterS m n k).1 := fun x hx => (iterS_keeps m n 0 k (by omega)).subset (addAll_has _ _ x hx)
end Go.Proofs.YtacpchapgklcgaaGreatDoor
end
section
namespace Go.Proofs.YtacpchapgklcgaaGreatDoor
open Go Go.RowKit Go.Proofs
/-- The symbol at a place of the tape, the head being at p. -/
def tapeOf (c : ConfR) (p z : Int) : Int := if p ≤ z then c.r.getD (z - p).toNat 0 else c.l.getD (p - 1 - z).toNat 0
theorem getD_drop1 (xs : List Int) (i : Nat) : (xs.drop 1).getD i 0 = xs.getD (i + 1) 0 := by
  simp [List.getD_eq_getElem?_getD]
theorem getD_cons0 (x : Int) (xs : List Int) : (x :: xs).getD 0 0 = x := rfl
theorem getD_consS (x : Int) (xs : List Int) (i : Nat) : (x :: xs).getD (i + 1) 0 = xs.getD i 0 := rfl
theorem tape_head (c : ConfR) (p : Int) : tapeOf c p p = hdR c.r := by
  unfold tapeOf hdR
  rw [if_pos (Int.le_refl _), Int.sub_self]
  rfl
theorem tape_step {ru : RuleD} (hm : ru.m = 1 ∨ ru.m = -1) (c : ConfR) (p z : Int) : tapeOf (stepC ru c) (p + ru.m) z = if z = p then ru.w else tapeOf c p z := by
  rcases hm with h | h
  · unfold tapeOf stepC
    rw [if_pos (show 0 < ru.m by omega), h]
    by_cases c1 : p + 1 ≤ z
    · rw [if_pos c1, if_neg (show ¬ z = p by omega), if_pos (show p ≤ z by omega)]
      show (c.r.drop 1).getD _ 0 = _
      rw [getD_drop1]
      congr 1
      omega
    · rw [if_neg c1]
      show (trim (ru.w :: c.l)).getD _ 0 = _
      rw [trim_get]
      by_cases c2 : z = p
      · rw [if_pos c2, show (p + 1 - 1 - z).toNat = 0 by omega]
        rfl
      · rw [if_neg c2, if_neg (show ¬ p ≤ z by omega), show (p + 1 - 1 - z).toNat = (p - 1 - z).toNat + 1 by omega]
        rfl
  · unfold tapeOf stepC
    rw [if_neg (show ¬ 0 < ru.m by omega), h]
    by_cases c1 : p + -1 ≤ z
    · rw [if_pos c1]
      show (trim (hdR c.l :: trim (ru.w :: c.r.drop 1))).getD _ 0 = _
      rw [trim_get]
      by_cases c2 : z = p - 1
      · rw [if_neg (show ¬ z = p by omega), if_neg (show ¬ p ≤ z by omega), show (z - (p + -1)).toNat = 0 by omega, show (p - 1 - z).toNat = 0 by omega]
        rfl
      · rw [show (z - (p + -1)).toNat = (z - p).toNat + 1 by omega, getD_consS, trim_get]
        by_cases c3 : z = p
        · rw [if_pos c3, show (z - p).toNat = 0 by omega]
          rfl
        · rw [if_neg c3, if_pos (show p ≤ z by omega), show (z - p).toNat = (z - p - 1).toNat + 1 by omega, getD_consS, getD_drop1]
    · rw [if_neg c1, if_neg (show ¬ z = p by omega), if_neg (show ¬ p ≤ z by omega)]
      show (c.l.drop 1).getD _ 0 = _
      rw [getD_drop1]
      congr 1
      omega
def ruleAt (m : MachD) (c : ConfR) : RuleD := m.rules.getD (c.q * m.sy + hdR c.r).toNat noR
def runC (m : MachD) : Nat → ConfR
  | 0 => ⟨0, [], []⟩
  | t + 1 => stepC (ruleAt m (runC m t)) (runC m t)
def posC (m : MachD) : Nat → Int
  | 0 => 0
  | t + 1 => posC m t + (ruleAt m (runC m t)).m
/-- A configuration of a machine. -/
structure CGood (m : MachD) (c : ConfR) : Prop where
  q0 : 0 ≤ c.q
  q1 : c.q < m.st
  l : ∀ z ∈ c.l, 0 ≤ z ∧ z < m.sy
  r : ∀ z ∈ c.r, 0 ≤ z ∧ z < m.sy
theorem hdR_of {xs : List Int} {sy : Int} (h : ∀ z ∈ xs, 0 ≤ z ∧ z < sy) (h0 : 0 < sy) : 0 ≤ hdR xs ∧ hdR xs < sy := by
  unfold hdR
  cases xs with
  | nil => exact ⟨by simp, by simpa using h0⟩
  | cons a l => exact h a List.mem_cons_self
theorem CGood.idx {m : MachD} (hm : MOk m) {c : ConfR} (h : CGood m c) : ∃ k, k < m.rules.length ∧ c.q * m.sy + hdR c.r = (k : Int) := by
  have a := hdR_of h.r (by have := hm.sy1; omega)
  have s1 := hm.sy1
  have e1 := Int.mul_nonneg h.q0 (show 0 ≤ m.sy by omega)
  have e2 : c.q * m.sy + m.sy ≤ m.st * m.sy := by
    have := Int.mul_le_mul_of_nonneg_right (show c.q + 1 ≤ m.st from h.q1) (show 0 ≤ m.sy by omega)
    rw [Int.add_mul, Int.one_mul] at this
    exact this
  have e3 := hm.len
  rw [Int.mul_comm] at e3
  exact ⟨(c.q * m.sy + hdR c.r).toNat, by omega, by omega⟩
theorem ruleAt_get {m : MachD} {c : ConfR} {k : Nat} (hk : k < m.rules.length) (e : c.q * m.sy + hdR c.r = (k : Int)) : ruleAt m c = m.rules[k] := by
  unfold ruleAt
  rw [e, Int.toNat_natCast, List.getD_eq_getElem?_getD, List.getElem?_eq_getElem hk]
  rfl
theorem CGood.step {m : MachD} (hm : machOk m = true) {c : ConfR} (h : CGood m c) (hr : ¬ ruleAt m c = noR) : CGood m (stepC (ruleAt m c) c) := by
  have ok := MOk.of hm
  obtain ⟨k, hk, e⟩ := h.idx ok
  have s1 := ok.sy1
  rw [ruleAt_get hk e] at hr ⊢
  simp only [machOk, Bool.and_eq_true, List.all_eq_true] at hm
  have hq := hm.2 _ (List.getElem_mem hk)
  simp only [ruleOk, hr, decide_false, Bool.false_or, Bool.and_eq_true, inB, decide_eq_true_eq] at hq
  have hl := hdR_of h.l (by omega)
  unfold stepC
  split
  · refine ⟨by simp; omega, by simp; omega, fun z hz => ?_, fun z hz => h.r z (List.mem_of_mem_drop hz)⟩
    rcases List.mem_cons.1 (trim_mem hz) with rfl | hz
    · omega
    · exact h.l z hz
  · refine ⟨by simp; omega, by simp; omega, fun z hz => h.l z (List.mem_of_mem_drop hz), fun z hz => ?_⟩
    rcases List.mem_cons.1 (trim_mem hz) with rfl | hz
    · exact hl
    · rcases List.mem_cons.1 (trim_mem hz) with rfl | hz
      · omega
      · exact h.r z (List.mem_of_mem_drop hz)
theorem runC_good {m : MachD} (hm : machOk m = true) : ∀ t, (∀ j < t, ¬ ruleAt m (runC m j) = noR) → CGood m (runC m t) := by
  intro t
  induction t with
  | zero =>
    intro _
    have := (MOk.of hm).st1
    exact ⟨by simp [runC], by simp [runC]; omega, by simp [runC], by simp [runC]⟩
  | succ t ih =>
    intro h
    exact (ih fun j hj => h j (by omega)).step hm (h t (by omega))
theorem stepC_len (ru : RuleD) (c : ConfR) : (stepC ru c).l.length ≤ c.l.length + 1 ∧ (stepC ru c).r.length ≤ c.r.length - 1 + 2 := by
  have e1 : (c.r.drop 1).length = c.r.length - 1 := List.length_drop
  have e2 : (c.l.drop 1).length = c.l.length - 1 := List.length_drop
  have h0 := trim_len (ru.w :: c.l)
  have h1 := trim_len (hdR c.l :: trim (ru.w :: c.r.drop 1))
  have h2 := trim_len (ru.w :: c.r.drop 1)
  simp only [List.length_cons] at h0 h1 h2
  unfold stepC
  split
  · exact ⟨h0, by show (c.r.drop 1).length ≤ _; omega⟩
  · exact ⟨by show (c.l.drop 1).length ≤ _; omega, by show (trim _).length ≤ _; omega⟩
theorem runC_len (m : MachD) : ∀ t, (runC m t).l.length ≤ t ∧ (runC m t).r.length ≤ t + 1 := by
  intro t
  induction t with
  | zero => simp [runC]
  | succ t ih =>
    have := stepC_len (ruleAt m (runC m t)) (runC m t)
    refine ⟨by show (stepC _ _).l.length ≤ _; omega, ?_⟩
    show (stepC _ _).r.length ≤ _
    omega
/-- A run of configurations that halts is a run on a tape that halts. -/
theorem runC_halts {m : MachD} (hm : machOk m = true) {T : Nat} (h : ∀ j < T, ¬ ruleAt m (runC m j) = noR) (hT : ruleAt m (runC m T) = noR) :
    HaltRun m T (fun t => tapeOf (runC m t) (posC m t)) (posC m) (fun t => (runC m t).q) := by
  have ok := MOk.of hm
  have s1 := ok.sy1
  have good : ∀ t, t ≤ T → CGood m (runC m t) := fun t ht => runC_good hm t fun j hj => h j (by omega)
  refine ⟨fun z => by simp [tapeOf, runC], rfl, fun t ht => ?_, fun t ht => (good t ht).q0, fun t ht => ?_, ?_⟩
  · show 0 ≤ tapeOf _ _ _ ∧ tapeOf _ _ _ < _
    rw [tape_head]
    exact hdR_of (good t ht).r (by omega)
  · obtain ⟨k, hk, e⟩ := (good t (by omega)).idx ok
    have er := ruleAt_get hk e
    have hn := h t ht
    rw [er] at hn
    refine ⟨k, hk, ?_, hn, ?_, ?_, fun z => ?_⟩
    · show (k : Int) = _ * _ + tapeOf _ _ _
      rw [tape_head, ← e]
    · show posC m t + (ruleAt m (runC m t)).m = _
      rw [er]
    · show (stepC (ruleAt m (runC m t)) (runC m t)).q = _
      rw [er]
      unfold stepC
      split <;> rfl
    · show tapeOf (stepC (ruleAt m (runC m t)) (runC m t)) (posC m t + (ruleAt m (runC m t)).m) z = _
      rw [er]
      exact tape_step (mv1 hm _ (List.getElem_mem hk) hn) _ _ _
  · obtain ⟨k, hk, e⟩ := (good T (Nat.le_refl _)).idx ok
    refine ⟨k, hk, ?_, by rw [← ruleAt_get hk e]; exact hT⟩
    show (k : Int) = _ * _ + tapeOf _ _ _
    rw [tape_head, ← e]
end Go.Proofs.YtacpchapgklcgaaGreatDoor
end
