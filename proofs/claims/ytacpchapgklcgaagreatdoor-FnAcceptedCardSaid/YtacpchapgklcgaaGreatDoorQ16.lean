/- Plain words on segments: where a machine halts from the blank tape, a node that may begin is found. No program stands here.
Plain words on backward search: partial configurations, those that lead to one, the levels; where a machine halts after more steps, no level is empty. No program stands here. -/
import Derived.Test.YtacpchapgklcgaaGreatDoorQ13
section
namespace Go.Proofs.YtacpchapgklcgaaGreatDoor
open Go Go.RowKit Go.Proofs
/-- A node of n cells from place o on covers a tape with a head and a state. -/
structure Covers (n : Nat) (o : Int) (A : Int → Int) (p q : Int) (x : List Int) : Prop where
  len : x.length = n + 2
  ins : 0 ≤ p - o → p - o < n → x.getD 0 0 = p - o ∧ x.getD 1 0 = q
  left : p - o < 0 → x.getD 0 0 = -1 ∧ x.getD 1 0 = -1
  right : (n : Int) ≤ p - o → x.getD 0 0 = n ∧ x.getD 1 0 = -1
  cells : ∀ i : Nat, i < n → x.getD (i + 2) 0 = -1 ∨ x.getD (i + 2) 0 = A (o + i)
theorem segNode_in {x : List Int} {h p a : Int} (h0 : 0 ≤ h) (h1 : h ≤ (x.length : Int) - 3) (i : Nat) : (segNode x h p a).getD (i + 2) 0 = if (i : Int) = h then a else x.getD (i + 2) 0 := by
  unfold segNode
  rw [if_pos ⟨h0, h1⟩]
  simp only [List.getD_eq_getElem?_getD]
  by_cases c : (i : Int) = h
  · have e : (2 + h).toNat = i + 2 := by omega
    rw [if_pos c, e, List.getElem?_set_self (by simp; omega)]
    rfl
  · rw [if_neg c, List.getElem?_set_ne (by omega), List.getElem?_set_ne (by omega), List.getElem?_set_ne (by omega)]
theorem segNode_out {x : List Int} {h p a : Int} (h0 : h < 0 ∨ (x.length : Int) - 3 < h) (i : Nat) : (segNode x h p a).getD (i + 2) 0 = x.getD (i + 2) 0 := by
  unfold segNode
  rw [if_neg (by omega)]
  simp only [List.getD_eq_getElem?_getD]
  rw [List.getElem?_set_ne (by omega), List.getElem?_set_ne (by omega)]
/-- One step back. -/
theorem covers_step {n : Nat} {o : Int} {A A' : Int → Int} {p q a : Int} {r : RuleD} {x : List Int} (hn : 1 ≤ n) (hq : 0 ≤ r.n) (hm : r.m = 1 ∨ r.m = -1) (hA : ∀ z, A' z = if z = p then r.w else A z) (ha : A p = a)
    (hx : Covers n o A' (p + r.m) r.n x) : Covers n o A p q x ∨ ∃ y, before x q a r = some y ∧ Covers n o A p q y := by
  have hl := hx.len
  have same : ∀ z, z ≠ p → A' z = A z := fun z hz => by rw [hA, if_neg hz]
  have hcell : ∀ i : Nat, i < n → (i : Int) ≠ p - o → x.getD (i + 2) 0 = -1 ∨ x.getD (i + 2) 0 = A (o + i) := fun i hi hne => by
    rcases hx.cells i hi with c | c
    · exact .inl c
    · exact .inr (by rw [c, same _ (by omega)])
  by_cases hin : 0 ≤ p - o ∧ p - o < n
  · right
    have hx0 : x.getD 0 0 - r.m = p - o := by
      by_cases c1 : p + r.m - o < 0
      · have := hx.left c1; omega
      · by_cases c2 : (n : Int) ≤ p + r.m - o
        · have := hx.right c2; omega
        · have := hx.ins (by omega) (by omega); omega
    have hx1 : ¬ (0 ≤ x.getD 1 0 ∧ r.n ≠ x.getD 1 0) := by
      by_cases c1 : p + r.m - o < 0
      · have := hx.left c1; omega
      · by_cases c2 : (n : Int) ≤ p + r.m - o
        · have := hx.right c2; omega
        · have := (hx.ins (by omega) (by omega)).2; omega
    have hi : ((p - o).toNat : Int) = p - o := by omega
    have hc := hx.cells (p - o).toNat (by omega)
    have e2 : (2 + (p - o)).toNat = (p - o).toNat + 2 := by omega
    have hw : x.getD (2 + (p - o)).toNat 0 = r.w ∨ x.getD (2 + (p - o)).toNat 0 = -1 := by
      rw [e2]
      rcases hc with c | c
      · exact .inr c
      · refine .inl ?_
        rw [c, hA, if_pos (by omega)]
    refine ⟨segNode x (p - o) q a, ?_, ?_⟩
    · unfold before
      rw [hx0, if_neg (by omega), if_neg (by omega), if_pos hw]
    · refine ⟨by simp [hl], fun _ _ => ⟨getD_segNode_zero _ _ _ _ (by omega), getD_segNode_one _ _ _ _ (by omega)⟩, fun h => by omega, fun h => by omega, fun i hi' => ?_⟩
      rw [segNode_in (by omega) (by omega)]
      by_cases c : (i : Int) = p - o
      · rw [if_pos c]
        exact .inr (by rw [← ha]; congr 1; omega)
      · rw [if_neg c]
        exact hcell i hi' c
  · by_cases hin' : 0 ≤ p + r.m - o ∧ p + r.m - o < n
    · right
      obtain ⟨e0, e1⟩ := hx.ins hin'.1 hin'.2
      have hx0 : x.getD 0 0 - r.m = p - o := by omega
      have hend : p - o = -1 ∨ p - o = (x.length : Int) - 2 := by omega
      refine ⟨segNode x (p - o) (-1) 0, ?_, ?_⟩
      · unfold before
        rw [hx0, if_neg (by omega), if_pos hend, if_pos (by omega)]
      · refine ⟨by simp [hl], fun h1 h2 => by omega, fun h => ?_, fun h => ?_, fun i hi => ?_⟩
        · exact ⟨by rw [getD_segNode_zero _ _ _ _ (by omega)]; omega, getD_segNode_one _ _ _ _ (by omega)⟩
        · exact ⟨by rw [getD_segNode_zero _ _ _ _ (by omega)]; omega, getD_segNode_one _ _ _ _ (by omega)⟩
        · rw [segNode_out (by omega)]
          exact hcell i hi (by omega)
    · left
      refine ⟨hl, fun h1 h2 => by omega, fun h => hx.left (by omega), fun h => hx.right (by omega), fun i hi => hcell i hi (by omega)⟩
theorem mem_addNew {xss : List (List Int)} {y : List Int} : y ∈ addNew xss (some y) := by
  unfold addNew
  split
  · rename_i z hz
    injection hz with hz
    subst hz
    split <;> simp [*]
  · rename_i h; cases h
theorem addNew_sub {xss : List (List Int)} {o : Option (List Int)} {z : List Int} (h : z ∈ xss) : z ∈ addNew xss o := by
  unfold addNew
  split
  · split
    · exact h
    · exact List.mem_append_left _ h
  · exact h
theorem predsTo_sub {m : MachD} {x z : List Int} {k : Nat} (h : z ∈ predsTo m x k) : ∀ j, k ≤ j → z ∈ predsTo m x j := by
  intro j hj
  induction j with
  | zero => obtain rfl : k = 0 := by omega
            exact h
  | succ j ih =>
    by_cases c : k = j + 1
    · subst c; exact h
    · have := ih (by omega)
      show z ∈ (match m.rules[j]? with | some r => if r = noR then predsTo m x j else addNew (predsTo m x j) (before x ((j : Int) / m.sy) ((j : Int) % m.sy) r) | none => predsTo m x j)
      split
      · split
        · exact this
        · exact addNew_sub this
      · exact this
theorem before_mem {m : MachD} {x y : List Int} {k : Nat} (hk : k < m.rules.length) (hr : ¬ m.rules[k] = noR) (h : before x ((k : Int) / m.sy) ((k : Int) % m.sy) m.rules[k] = some y) : y ∈ predsTo m x m.rules.length := by
  refine predsTo_sub (k := k + 1) ?_ _ (by omega)
  rw [predsTo_yes hk hr, h]
  exact mem_addNew
/-- A run of a machine from the blank tape that halts: tapes, heads, states. -/
structure HaltRun (m : MachD) (T : Nat) (A : Nat → Int → Int) (p q : Nat → Int) : Prop where
  blank : ∀ z, A 0 z = 0
  first : q 0 = 0
  sym : ∀ t, t ≤ T → 0 ≤ A t (p t) ∧ A t (p t) < m.sy
  st : ∀ t, t ≤ T → 0 ≤ q t
  step : ∀ t, t < T → ∃ k, ∃ hk : k < m.rules.length, (k : Int) = q t * m.sy + A t (p t) ∧ ¬ m.rules[k] = noR ∧ p (t + 1) = p t + m.rules[k].m ∧ q (t + 1) = m.rules[k].n ∧ ∀ z, A (t + 1) z = if z = p t then m.rules[k].w else A t z
  halt : ∃ k, ∃ hk : k < m.rules.length, (k : Int) = q T * m.sy + A T (p T) ∧ m.rules[k] = noR
theorem idx_parts {sy q a k : Int} (h1 : 0 ≤ a) (h2 : a < sy) (hk : k = q * sy + a) : k / sy = q ∧ k % sy = a := by
  subst hk
  constructor
  · rw [Int.add_comm, Int.add_mul_ediv_right _ _ (by omega), Int.ediv_eq_zero_of_lt h1 h2]; omega
  · rw [Int.add_comm, Int.add_mul_emod_self_right, Int.emod_eq_of_lt h1 h2]
theorem mem_starts {m : MachD} {n k : Nat} (hk : k < m.rules.length) (h : m.rules[k] = noR) : segNode (List.replicate (n + 2) (-1)) ((n : Int) / 2) ((k : Int) / m.sy) ((k : Int) % m.sy) ∈ startsIn m n := by
  simp only [startsIn, startsOf, partsOf, List.map_map, List.mem_map]
  refine ⟨(k : Int), ?_, rfl⟩
  unfold freeTo
  rw [List.mem_filterMap]
  exact ⟨k, List.mem_range.2 hk, by rw [List.getElem?_eq_getElem hk, h]; simp⟩
theorem mv1 {m : MachD} (h : machOk m = true) : ∀ r ∈ m.rules, ¬ r = noR → r.m = 1 ∨ r.m = -1 := by
  intro r hr hn
  simp only [machOk, Bool.and_eq_true, List.all_eq_true] at h
  have := h.2 r hr
  simp only [ruleOk, hn, decide_false, Bool.false_or, Bool.and_eq_true, Bool.or_eq_true, beq_iff_eq] at this
  exact this.1.2
theorem halts_may {m : MachD} (hm : machOk m = true) {n : Nat} (n1 : 1 ≤ n) {L : List (List Int)} (closed : ∀ x ∈ L, ∀ y ∈ predsTo m x m.rules.length, y ∈ L) (starts : ∀ x ∈ startsIn m n, x ∈ L)
    {T : Nat} {A : Nat → Int → Int} {p q : Nat → Int} (h : HaltRun m T A p q) : ∃ x ∈ L, mayB x = true := by
  have key : ∀ t, t ≤ T → ∃ x ∈ L, Covers n (p T - (n : Int) / 2) (A (T - t)) (p (T - t)) (q (T - t)) x := by
    intro t
    induction t with
    | zero =>
      intro _
      obtain ⟨k, hk, e, hr⟩ := h.halt
      obtain ⟨s1, s2⟩ := h.sym T (Nat.le_refl _)
      obtain ⟨d1, d2⟩ := idx_parts s1 s2 e
      refine ⟨_, starts _ (mem_starts hk hr), ?_⟩
      rw [d1, d2]
      have hl : (List.replicate (n + 2) (-1 : Int)).length = n + 2 := by simp
      refine ⟨by simp, fun _ _ => ⟨?_, ?_⟩, fun h => by simp at h; omega, fun h => by simp at h; omega, fun i hi => ?_⟩
      · rw [getD_segNode_zero _ _ _ _ (by omega)]; simp; omega
      · rw [getD_segNode_one _ _ _ _ (by omega)]; simp
      · rw [segNode_in (by omega) (by rw [hl]; omega)]
        by_cases c : (i : Int) = (n : Int) / 2
        · rw [if_pos c]
          right
          simp only [Nat.sub_zero]
          congr 1
          omega
        · rw [if_neg c]
          left
          rw [List.getD_eq_getElem?_getD, List.getElem?_replicate, if_pos (by omega)]
          rfl
    | succ t ih =>
      intro ht
      obtain ⟨x, hx, hc⟩ := ih (by omega)
      obtain ⟨k, hk, e, hr, hp, hq, hA⟩ := h.step (T - (t + 1)) (by omega)
      have es : T - (t + 1) + 1 = T - t := by omega
      rw [es] at hp hq hA
      obtain ⟨s1, s2⟩ := h.sym (T - (t + 1)) (by omega)
      obtain ⟨d1, d2⟩ := idx_parts s1 s2 e
      have hq0 := h.st (T - t) (by omega)
      have hmv : m.rules[k].m = 1 ∨ m.rules[k].m = -1 := mv1 hm _ (List.getElem_mem hk) hr
      rw [hp, hq] at hc
      rcases covers_step (q := q (T - (t + 1))) n1 (by rw [← hq]; exact hq0) hmv hA rfl hc with c | ⟨y, hy, c⟩
      · exact ⟨x, hx, c⟩
      · refine ⟨y, closed x hx y (before_mem hk hr ?_), c⟩
        rw [d1, d2]
        exact hy
  obtain ⟨x, hx, hc⟩ := key T (Nat.le_refl _)
  rw [Nat.sub_self, h.first] at hc
  refine ⟨x, hx, ?_⟩
  unfold mayB
  have hl := hc.len
  have h1 : x.getD 1 0 ≤ 0 := by
    by_cases c1 : p 0 - (p T - (n : Int) / 2) < 0
    · have := (hc.left c1).2; omega
    · by_cases c2 : (n : Int) ≤ p 0 - (p T - (n : Int) / 2)
      · have := (hc.right c2).2; omega
      · have := (hc.ins (by omega) (by omega)).2; omega
  simp only [Bool.and_eq_true, decide_eq_true_eq, List.all_eq_true]
  refine ⟨h1, fun z hz => ?_⟩
  obtain ⟨j, hj, rfl⟩ := List.getElem_of_mem hz
  have hj' : j + 2 < x.length := by simp at hj; omega
  have := hc.cells j (by omega)
  rw [h.blank, List.getD_eq_getElem?_getD, List.getElem?_eq_getElem hj'] at this
  simp only [Option.getD_some] at this
  have e : (x.drop 2)[j] = x[j + 2] := by simp [Nat.add_comm]
  rw [e]
  unfold inB
  simp
  omega
/-- The flag of the search says whether a node may begin. -/
theorem addAll_flag {s : List (List Int) × Bool} (l : List (List Int)) (h : s.2 = s.1.any mayB) : (addAll s l).2 = (addAll s l).1.any mayB := by
  induction l generalizing s with
  | nil => exact h
  | cons a l ih =>
    refine ih ?_
    unfold addOne
    split
    · exact h
    · simp [h]
theorem iterS_flag (m : MachD) (n k : Nat) : (iterS m n k).2 = (iterS m n k).1.any mayB := by
  induction k with
  | zero => exact addAll_flag _ (by simp)
  | succ k ih => exact addAll_flag _ ih
theorem addAll_keeps (s : List (List Int) × Bool) (l : List (List Int)) : s.1 <+: (addAll s l).1 := by
  induction l generalizing s with
  | nil => exact List.prefix_refl _
  | cons a l ih =>
    refine List.IsPrefix.trans ?_ (ih (addOne s a))
    unfold addOne
    split
    · exact List.prefix_refl _
    · exact List.prefix_append _ _
theorem addAll_has (s : List (List Int) × Bool) (l : List (List Int)) : ∀ x ∈ l, x ∈ (addAll s l).1 := by
  induction l generalizing s with
  | nil => intro x hx; simp at hx
  | cons a l ih =>
    intro x hx
    rcases List.mem_cons.1 hx with e | e
    · subst e
      refine (addAll_keeps (addOne s x) l).subset ?_
      unfold addOne
      split
      · assumption
      · simp
    · exact ih (addOne s a) x e
theorem iterS_keeps (m : MachD) (n j : Nat) : ∀ k, j ≤ k → (iterS m n j).1 <+: (iterS m n k).1 := by
  intro k hk
  induction k with
  | zero => obtain rfl : j = 0 := by omega
            exact List.prefix_refl _
  | succ k ih =>
    by_cases c : j = k + 1
    · subst c; exact List.prefix_refl _
    · exact (ih (by omega)).trans (addAll_keeps _ _)
/-- What is found at the end is closed. -/
theorem ends_closed {m : MachD} {n k : Nat} (h : EndsS m n k) (hl : (iterS m n k).1.length ≤ 2000) : ∀ x ∈ (iterS m n k).1, ∀ y ∈ predsTo m x m.rules.length, y ∈ (iterS m n k).1 := by
  intro x hx y hy
  obtain ⟨j, hj, rfl⟩ := List.getElem_of_mem hx
  have hjk : j < k := by
    by_cases c : j < k
    · exact c
    · exact absurd ⟨by omega, hl⟩ h.2
  have hj' := (h.1 j hjk).1
  have hp := iterS_keeps m n j k (by omega)
  have e : (iterS m n j).1[j] = (iterS m n k).1[j] := hp.getElem hj'
  refine (iterS_keeps m n (j + 1) k (by omega)).subset ?_
  show y ∈ (stepS m (iterS m n j) j).1
  unfold stepS
  refine addAll_has _ _ y ?_
  rw [List.getD_eq_getElem?_getD, List.getElem?_eq_getElem hj', e]
  exact hy
theorem ends_starts (m : MachD) (n k : Nat) : ∀ x ∈ startsIn m n, x ∈ (iterS m n k).1 := fun x hx => (iterS_keeps m n 0 k (by omega)).subset (addAll_has _ _ x hx)
end Go.Proofs.YtacpchapgklcgaaGreatDoor
end
section
set_option linter.unusedSimpArgs false
set_option linter.unusedVariables false
namespace Go.Proofs.YtacpchapgklcgaaGreatDoor
open Go Go.RowKit Go.Proofs
/-- A state with a segment of the tape. -/
structure PartD where
  q : Int
  p : Nat
  cs : List Int
deriving DecidableEq
/-- The one from which a rule of a state and a symbol leads. -/
def predP (x : PartD) (q a : Int) (r : RuleD) : Option PartD :=
  if ¬ r.n = x.q then none
  else if (x.p : Int) - r.m < 0 then some ⟨q, 0, a :: x.cs⟩
  else if (x.p : Int) - r.m = x.cs.length then some ⟨q, x.cs.length, x.cs ++ [a]⟩
  else if ¬ x.cs.getD ((x.p : Int) - r.m).toNat 0 = r.w then none
  else some ⟨q, ((x.p : Int) - r.m).toNat, x.cs.set ((x.p : Int) - r.m).toNat a⟩
def predAt (m : MachD) (x : PartD) (k : Nat) : Option PartD :=
  if m.rules.getD k noR = noR then none else predP x ((k : Int) / m.sy) ((k : Int) % m.sy) (m.rules.getD k noR)
/-- All of them, by the first k rules. -/
def predsUp (m : MachD) (x : PartD) (k : Nat) : List PartD := (List.range k).filterMap (predAt m x)
def predsP (m : MachD) (x : PartD) : List PartD := predsUp m x m.rules.length
theorem predsUp_next (m : MachD) (x : PartD) (k : Nat) : predsUp m x (k + 1) = predsUp m x k ++ (predAt m x k).toList := by
  unfold predsUp
  rw [List.range_succ, List.filterMap_append]
  cases h : predAt m x k <;> simp [h]
def addB (l : List PartD) (y : PartD) : List PartD := if y ∈ l then l else l ++ [y]
theorem addB_mem {l : List PartD} {y z : PartD} : z ∈ addB l y ↔ z ∈ l ∨ z = y := by
  unfold addB
  split
  · rename_i h
    exact ⟨.inl, fun h' => h'.elim id (fun e => e ▸ h)⟩
  · simp
theorem foldP_mem : ∀ {ys l : List PartD} {z : PartD}, z ∈ ys.foldl addB l ↔ z ∈ l ∨ z ∈ ys := by
  intro ys
  induction ys with
  | nil => intro l z; simp
  | cons a ys ih => intro l z; rw [List.foldl_cons, ih, addB_mem, List.mem_cons, or_assoc]
/-- A predecessor is too long. -/
def longP (m : MachD) (x : PartD) : Bool := (predsP m x).any fun y => decide (60 < y.cs.length)
/-- The next level, and the number of steps that are left. -/
def nextGo (m : MachD) : List PartD → List PartD → Int → Option (List PartD × Int)
  | [], acc, s => some (acc, s)
  | x :: xs, acc, s =>
    if longP m x = true ∨ s - 1 < 0 then none
    else if 300 < ((predsP m x).foldl addB acc).length then none
    else nextGo m xs ((predsP m x).foldl addB acc) (s - 1)
def nextP (m : MachD) (l : List PartD) (s : Int) : Option (List PartD × Int) := nextGo m l [] s
theorem nextGo_mem {m : MachD} : ∀ {xs acc : List PartD} {s : Int} {r : List PartD × Int}, nextGo m xs acc s = some r → ∀ z, (z ∈ acc ∨ ∃ x ∈ xs, z ∈ predsP m x) → z ∈ r.1 := by
  intro xs
  induction xs with
  | nil =>
    intro acc s r h z hz
    injection h with h
    subst h
    rcases hz with hz | ⟨x, hx, _⟩
    · exact hz
    · cases hx
  | cons a xs ih =>
    intro acc s r h z hz
    unfold nextGo at h
    split at h
    · cases h
    · split at h
      · cases h
      · refine ih h z ?_
        rcases hz with hz | ⟨x, hx, hxz⟩
        · exact .inl (foldP_mem.2 (.inl hz))
        · rcases List.mem_cons.1 hx with rfl | hx
          · exact .inl (foldP_mem.2 (.inr hxz))
          · exact .inr ⟨x, hx, hxz⟩
/-- The halting partial configurations. -/
def haltP (m : MachD) : List PartD := (freeTo m.rules m.rules.length).map fun z => ⟨z / m.sy, 0, [z % m.sy]⟩
/-- The levels from a list on: a chain. -/
inductive Chain (m : MachD) : List PartD → Int → Nat → List PartD → Int → Prop
  | zero (l s) : Chain m l s 0 l s
  | next {l s n l' s' l'' s''} : Chain m l s n l' s' → nextP m l' s' = some (l'', s'') → Chain m l s (n + 1) l'' s''
/-- A partial configuration and a tape with a head and a state. -/
structure Fitted (A : Int → Int) (p q : Int) (x : PartD) : Prop where
  q : x.q = q
  low : x.p < x.cs.length
  cells : ∀ i : Nat, i < x.cs.length → x.cs.getD i 0 = A (p - x.p + i)
theorem fitted_back {A A' : Int → Int} {p q a : Int} {r : RuleD} {x : PartD} (hm : r.m = 1 ∨ r.m = -1) (hA : ∀ z, A' z = if z = p then r.w else A z) (ha : A p = a) (h : Fitted A' (p + r.m) r.n x) :
    ∃ y, predP x q a r = some y ∧ Fitted A p q y := by
  obtain ⟨h1, h2, h3⟩ := h
  have same : ∀ z, z ≠ p → A' z = A z := fun z hz => by rw [hA, if_neg hz]
  unfold predP
  rw [if_neg (fun hn => hn h1.symm)]
  by_cases c1 : (x.p : Int) - r.m < 0
  · rw [if_pos c1]
    have e1 : r.m = 1 := by omega
    have e0 : x.p = 0 := by omega
    refine ⟨_, rfl, rfl, by simp, fun i hi => ?_⟩
    cases i with
    | zero => simp only [List.getD_eq_getElem?_getD, List.getElem?_cons_zero, Option.getD_some]; rw [← ha]; congr 1; simp
    | succ i =>
      simp only [List.length_cons] at hi
      have := h3 i (by omega)
      have e2 : (a :: x.cs).getD (i + 1) 0 = x.cs.getD i 0 := rfl
      simp only at e2 ⊢
      rw [e2, this, same _ (by omega)]
      congr 1
      omega
  · rw [if_neg c1]
    by_cases c2 : (x.p : Int) - r.m = x.cs.length
    · rw [if_pos c2]
      refine ⟨_, rfl, rfl, by simp, fun i hi => ?_⟩
      simp only [List.length_append, List.length_cons, List.length_nil] at hi
      simp only [List.getD_eq_getElem?_getD]
      by_cases hil : i < x.cs.length
      · rw [List.getElem?_append_left hil]
        have := h3 i hil
        rw [List.getD_eq_getElem?_getD] at this
        rw [this, same _ (by omega)]
        congr 1
        omega
      · have : i = x.cs.length := by omega
        subst this
        rw [List.getElem?_append_right (Nat.le_refl _)]
        simp only [Nat.sub_self, List.getElem?_cons_zero, Option.getD_some]
        rw [← ha]
        congr 1
        omega
    · rw [if_neg c2]
      have hc : ((x.p : Int) - r.m).toNat < x.cs.length := by omega
      have ec := h3 _ hc
      have ep : p + r.m - (x.p : Int) + (((x.p : Int) - r.m).toNat : Int) = p := by omega
      rw [ep, hA, if_pos rfl] at ec
      rw [if_neg (fun hn => hn ec)]
      refine ⟨_, rfl, rfl, by simp; omega, fun i hi => ?_⟩
      simp only [List.length_set] at hi
      simp only [List.getD_eq_getElem?_getD]
      by_cases hic : i = ((x.p : Int) - r.m).toNat
      · rw [← hic, List.getElem?_set_self hi]
        simp only [Option.getD_some]
        rw [← ha]
        congr 1
        omega
      · rw [List.getElem?_set_ne (by omega)]
        have := h3 i hi
        rw [List.getD_eq_getElem?_getD] at this
        rw [this, same _ (by omega)]
        congr 1
        omega
theorem mem_predsP {m : MachD} {x y : PartD} {k : Nat} (hk : k < m.rules.length) (hr : ¬ m.rules[k] = noR) (h : predP x ((k : Int) / m.sy) ((k : Int) % m.sy) m.rules[k] = some y) : y ∈ predsP m x := by
  unfold predsP predsUp
  rw [List.mem_filterMap]
  refine ⟨k, List.mem_range.2 hk, ?_⟩
  have e : m.rules.getD k noR = m.rules[k] := by rw [List.getD_eq_getElem?_getD, List.getElem?_eq_getElem hk]; rfl
  unfold predAt
  rw [e, if_neg hr]
  exact h
theorem mem_haltP {m : MachD} {k : Nat} (hk : k < m.rules.length) (h : m.rules[k] = noR) : (⟨(k : Int) / m.sy, 0, [(k : Int) % m.sy]⟩ : PartD) ∈ haltP m := by
  unfold haltP freeTo
  refine List.mem_map.2 ⟨(k : Int), ?_, rfl⟩
  rw [List.mem_filterMap]
  exact ⟨k, List.mem_range.2 hk, by rw [List.getElem?_eq_getElem hk, h]; simp⟩
/-- Each level bears one that fits the configuration so many steps before the end. -/
theorem chain_fitted {m : MachD} (hm : machOk m = true) {T : Nat} {A : Nat → Int → Int} {p q : Nat → Int} (h : HaltRun m T A p q) {s s' : Int} {n : Nat} {l' : List PartD} (hc : Chain m (haltP m) s n l' s') (hn : n ≤ T) :
    ∃ x ∈ l', Fitted (A (T - n)) (p (T - n)) (q (T - n)) x := by
  induction hc with
  | zero =>
    obtain ⟨k, hk, e, hr⟩ := h.halt
    obtain ⟨s1, s2⟩ := h.sym T (Nat.le_refl _)
    obtain ⟨d1, d2⟩ := idx_parts s1 s2 e
    refine ⟨_, mem_haltP hk hr, d1, by simp, fun i hi => ?_⟩
    simp only [List.length_cons, List.length_nil] at hi
    have : i = 0 := by omega
    subst this
    simp only [List.getD_eq_getElem?_getD, List.getElem?_cons_zero, Option.getD_some]
    rw [d2]
    simp
  | next hc hs ih =>
    rename_i n l1 s1 l2 s2
    obtain ⟨x, hx, hf⟩ := ih (by omega)
    obtain ⟨k, hk, e, hr, h1, h2, h3⟩ := h.step (T - (n + 1)) (by omega)
    have et : T - (n + 1) + 1 = T - n := by omega
    rw [et] at h1 h2 h3
    obtain ⟨s1', s2'⟩ := h.sym (T - (n + 1)) (by omega)
    obtain ⟨d1, d2⟩ := idx_parts s1' s2' e
    rw [h1, h2] at hf
    obtain ⟨y, hy, hfy⟩ := fitted_back (q := q (T - (n + 1))) (mv1 hm _ (List.getElem_mem hk) hr) h3 rfl hf
    refine ⟨y, nextGo_mem hs y (.inr ⟨x, hx, mem_predsP hk hr ?_⟩), hfy⟩
    rw [d1, d2]
    exact hy
/-- Where a level is empty the machine does not halt after so many steps or more. -/
theorem chain_empty {m : MachD} (hm : machOk m = true) {T : Nat} {A : Nat → Int → Int} {p q : Nat → Int} (h : HaltRun m T A p q) {s s' : Int} {n : Nat} (hc : Chain m (haltP m) s n [] s') : T < n := by
  rcases Nat.lt_or_ge T n with c | c
  · exact c
  · obtain ⟨x, hx, _⟩ := chain_fitted hm h hc c
    cases hx
end Go.Proofs.YtacpchapgklcgaaGreatDoor
end
