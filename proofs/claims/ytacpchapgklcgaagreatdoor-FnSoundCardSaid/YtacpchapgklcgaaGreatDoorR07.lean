/- Plain words on the program's runs of a machine: sides grow and shrink at their near ends.
Plain words on automata beside a machine: abstractions of configurations, and the abstractions to which one leads.
Plain words on automata, continued: there are few abstractions, so that the closure is closed; the automaton of the pairs of states. -/
import Derived.Test.YtacpchapgklcgaaGreatDoorR06
section
namespace Go.Proofs.YtacpchapgklcgaaGreatDoor
open Go Go.RowKit Go.Proofs
def pushL (s : Int) (xs : List Int) : List Int := if s = 0 ∧ xs = [] then [] else s :: xs
def hdD (xs : List Int) : Int := xs.getD 0 0
/-- The rule that a configuration looks at. -/
def lookI (m : MachD) (c : ConfD) : RuleD := m.rules.getD (c.q * m.sy + hdD c.r).toNat noR
/-- The configuration behind a step. -/
def stepI (ru : RuleD) (c : ConfD) : ConfD :=
  if 0 < ru.m then ⟨ru.n, pushL ru.w c.l, c.r.drop 1⟩ else ⟨ru.n, c.l.drop 1, pushL (hdD c.l) (pushL ru.w (c.r.drop 1))⟩
def cfgI (m : MachD) (c : ConfD) : Nat → ConfD
  | 0 => c
  | t + 1 => stepI (lookI m (cfgI m c t)) (cfgI m c t)
def fitI (c : ConfD) : Bool := decide (c.l.length ≤ 200) && decide (c.r.length ≤ 200)
/-- A configuration of a machine. -/
structure IGood (m : MachD) (c : ConfD) : Prop where
  q0 : 0 ≤ c.q
  q1 : c.q < m.st
  l : ∀ z ∈ c.l, 0 ≤ z ∧ z < m.sy
  r : ∀ z ∈ c.r, 0 ≤ z ∧ z < m.sy
theorem hdD_of {xs : List Int} {sy : Int} (h : ∀ z ∈ xs, 0 ≤ z ∧ z < sy) (h0 : 0 < sy) : 0 ≤ hdD xs ∧ hdD xs < sy := by
  unfold hdD
  cases xs with
  | nil => exact ⟨by simp, by simpa using h0⟩
  | cons a l => exact h a List.mem_cons_self
theorem machOk_five {m : MachD} (h : machOk m = true) : (2 ≤ m.sy ∧ m.sy ≤ 6 ∧ 1 ≤ m.st ∧ m.st ≤ 1000) ∧ (m.rules.length : Int) = m.sy * m.st ∧ ∀ r ∈ m.rules, ruleOk m.sy m.st r = true := by
  simp only [machOk, inB, Bool.and_eq_true, decide_eq_true_eq, List.all_eq_true] at h
  refine ⟨by omega, by omega, h.2⟩
theorem IGood.idx {m : MachD} (hm : machOk m = true) {c : ConfD} (h : IGood m c) : ∃ k : Nat, k < m.rules.length ∧ c.q * m.sy + hdD c.r = (k : Int) := by
  obtain ⟨⟨s1, _, _, _⟩, hl, _⟩ := machOk_five hm
  have a := hdD_of h.r (by omega)
  have e1 := Int.mul_nonneg h.q0 (show 0 ≤ m.sy by omega)
  have e2 : c.q * m.sy + m.sy ≤ m.st * m.sy := by
    have := Int.mul_le_mul_of_nonneg_right (show c.q + 1 ≤ m.st from h.q1) (show 0 ≤ m.sy by omega)
    rw [Int.add_mul, Int.one_mul] at this
    exact this
  rw [Int.mul_comm] at hl
  exact ⟨(c.q * m.sy + hdD c.r).toNat, by omega, by omega⟩
theorem lookI_get {m : MachD} {c : ConfD} {k : Nat} (hk : k < m.rules.length) (e : c.q * m.sy + hdD c.r = (k : Int)) : lookI m c = m.rules[k] := by
  unfold lookI
  rw [e, Int.toNat_natCast, List.getD_eq_getElem?_getD, List.getElem?_eq_getElem hk]
  rfl
theorem pushL_mem {s z : Int} {xs : List Int} (h : z ∈ pushL s xs) : z = s ∨ z ∈ xs := by
  unfold pushL at h
  split at h
  · cases h
  · simpa using h
theorem pushL_len (s : Int) (xs : List Int) : (pushL s xs).length ≤ xs.length + 1 := by
  unfold pushL
  split <;> simp
theorem IGood.step {m : MachD} (hm : machOk m = true) {c : ConfD} (h : IGood m c) (hr : ¬ lookI m c = noR) : IGood m (stepI (lookI m c) c) := by
  obtain ⟨⟨s1, _, _, _⟩, _, hall⟩ := machOk_five hm
  obtain ⟨k, hk, e⟩ := h.idx hm
  rw [lookI_get hk e] at hr ⊢
  have hq := hall _ (List.getElem_mem hk)
  simp only [ruleOk, hr, decide_false, Bool.false_or, Bool.and_eq_true, inB, decide_eq_true_eq] at hq
  have hl := hdD_of h.l (by omega)
  unfold stepI
  split
  · refine ⟨by simp; omega, by simp; omega, fun z hz => ?_, fun z hz => h.r z (List.mem_of_mem_drop hz)⟩
    rcases pushL_mem hz with rfl | hz
    · omega
    · exact h.l z hz
  · refine ⟨by simp; omega, by simp; omega, fun z hz => h.l z (List.mem_of_mem_drop hz), fun z hz => ?_⟩
    rcases pushL_mem hz with rfl | hz
    · exact hl
    · rcases pushL_mem hz with rfl | hz
      · omega
      · exact h.r z (List.mem_of_mem_drop hz)
/-- So many steps are made from c. -/
structure RunsTo (m : MachD) (c : ConfD) (n : Nat) : Prop where
  no : ∀ i < n, ¬ lookI m (cfgI m c i) = noR
  fit : ∀ i ≤ n, fitI (cfgI m c i) = true
theorem RunsTo.zero {m : MachD} {c : ConfD} (h : fitI c = true) : RunsTo m c 0 := ⟨fun i hi => by omega, fun i hi => by
  have : i = 0 := by omega
  subst this; exact h⟩
theorem RunsTo.succ {m : MachD} {c : ConfD} {n : Nat} (h : RunsTo m c n) (h1 : ¬ lookI m (cfgI m c n) = noR) (h2 : fitI (cfgI m c (n + 1)) = true) : RunsTo m c (n + 1) :=
  ⟨fun i hi => if e : i = n then e ▸ h1 else h.no i (by omega), fun i hi => if e : i = n + 1 then e ▸ h2 else h.fit i (by omega)⟩
theorem cfg_good {m : MachD} (hm : machOk m = true) {c : ConfD} (hc : IGood m c) : ∀ n, (∀ i < n, ¬ lookI m (cfgI m c i) = noR) → IGood m (cfgI m c n) := by
  intro n
  induction n with
  | zero => intro _; exact hc
  | succ n ih => intro h; exact (ih fun i hi => h i (by omega)).step hm (h n (by omega))
end Go.Proofs.YtacpchapgklcgaaGreatDoor
end
section
set_option linter.unusedSimpArgs false
set_option linter.unusedVariables false
set_option linter.unusedSectionVars false
namespace Go.Proofs.YtacpchapgklcgaaGreatDoor
open Go Go.RowKit Go.Proofs
/-- An automaton. -/
structure DfaD where
  st : Int
  nx : List Int
deriving DecidableEq
def dfaOk (d : DfaD) (sy : Int) : Bool := inB sy 2 6 && inB d.st 1 20 && decide ((d.nx.length : Int) = d.st * sy) && (d.nx.all fun z => inB z 0 (d.st - 1)) && (d.nx.getD 0 0 == 0)
def toD (d : DfaD) (s x sy : Int) : Int := d.nx.getD (s * sy + x).toNat 0
def runD (d : DfaD) (sy : Int) (w : List Int) : Int := w.foldl (fun s x => toD d s x sy) 0
abbrev Outl := Int × Int × Int × Int
theorem hdD_push (s : Int) (xs : List Int) : hdD (pushL s xs) = s := by
  unfold pushL
  split
  · rename_i h; rw [h.1]; rfl
  · rfl
theorem drop_push (s : Int) (xs : List Int) : (pushL s xs).drop 1 = xs := by
  unfold pushL
  split
  · rename_i h; rw [h.2]; rfl
  · rfl
/-- The abstraction of a configuration. -/
def ofA (m : MachD) (L R : DfaD) (c : ConfD) : Outl := (runD L m.sy c.l.reverse, c.q, hdD c.r, runD R m.sy (c.r.drop 1).reverse)
/-- The states from which a symbol leads to a state, with the symbols. -/
def orgD (d : DfaD) (t sy : Int) : List (Int × Int) := (List.range d.nx.length).filterMap fun k => if d.nx.getD k 0 = t then some ((k : Int) / sy, (k : Int) % sy) else none
/-- The abstractions to which one leads. -/
def succA (m : MachD) (L R : DfaD) (a : Outl) : List Outl :=
  let r := m.rules.getD (a.2.1 * m.sy + a.2.2.1).toNat noR
  if isR r then
    if r.m = 1 then (orgD R a.2.2.2 m.sy).map fun p => (toD L a.1 r.w m.sy, r.n, p.2, p.1)
    else (orgD L a.1 m.sy).map fun p => (p.1, r.n, p.2, toD R a.2.2.2 r.w m.sy)
  else []
theorem dfaOk_parts {d : DfaD} {sy : Int} (h : dfaOk d sy = true) : (2 ≤ sy ∧ sy ≤ 6) ∧ (1 ≤ d.st ∧ d.st ≤ 20) ∧ (d.nx.length : Int) = d.st * sy ∧ (∀ z ∈ d.nx, 0 ≤ z ∧ z < d.st) ∧ d.nx.getD 0 0 = 0 := by
  simp only [dfaOk, inB, Bool.and_eq_true, decide_eq_true_eq, List.all_eq_true, beq_iff_eq] at h
  refine ⟨by omega, by omega, h.1.1.2, fun z hz => ?_, h.2⟩
  have := h.1.2 z hz
  omega
section
variable {d : DfaD} {sy : Int} (h : dfaOk d sy = true)
include h
theorem dfa_idx {s x : Int} (s0 : 0 ≤ s) (s1 : s < d.st) (x0 : 0 ≤ x) (x1 : x < sy) : ∃ k : Nat, k < d.nx.length ∧ s * sy + x = (k : Int) ∧ (k : Int) / sy = s ∧ (k : Int) % sy = x := by
  obtain ⟨h1, h2, hl, _, _⟩ := dfaOk_parts h
  have e1 := Int.mul_nonneg s0 (show 0 ≤ sy by omega)
  have e2 : s * sy + sy ≤ d.st * sy := by
    have := Int.mul_le_mul_of_nonneg_right (show s + 1 ≤ d.st from s1) (show 0 ≤ sy by omega)
    rw [Int.add_mul, Int.one_mul] at this
    exact this
  refine ⟨(s * sy + x).toNat, by omega, by omega, ?_, ?_⟩
  · rw [Int.toNat_of_nonneg (by omega), Int.add_comm, Int.add_mul_ediv_right _ _ (by omega), Int.ediv_eq_zero_of_lt x0 x1, Int.zero_add]
  · rw [Int.toNat_of_nonneg (by omega), Int.add_comm, Int.add_mul_emod_self_right, Int.emod_eq_of_lt x0 x1]
theorem toD_range {s x : Int} (s0 : 0 ≤ s) (s1 : s < d.st) (x0 : 0 ≤ x) (x1 : x < sy) : 0 ≤ toD d s x sy ∧ toD d s x sy < d.st := by
  obtain ⟨_, _, _, ha, _⟩ := dfaOk_parts h
  obtain ⟨k, hk, e, _, _⟩ := dfa_idx h s0 s1 x0 x1
  unfold toD
  rw [e, Int.toNat_natCast, List.getD_eq_getElem?_getD, List.getElem?_eq_getElem hk, Option.getD_some]
  exact ha _ (List.getElem_mem hk)
theorem toD_zero : toD d 0 0 sy = 0 := by
  obtain ⟨_, _, _, _, h0⟩ := dfaOk_parts h
  unfold toD
  simpa using h0
theorem runD_snoc (w : List Int) (x : Int) : runD d sy (w ++ [x]) = toD d (runD d sy w) x sy := by
  unfold runD
  rw [List.foldl_append]
  rfl
theorem runD_cons (x : Int) (w : List Int) : runD d sy (x :: w).reverse = toD d (runD d sy w.reverse) x sy := by
  rw [List.reverse_cons, runD_snoc h]
theorem runD_range {w : List Int} (hw : ∀ z ∈ w, 0 ≤ z ∧ z < sy) : 0 ≤ runD d sy w.reverse ∧ runD d sy w.reverse < d.st := by
  obtain ⟨_, h2, _, _, _⟩ := dfaOk_parts h
  induction w with
  | nil => exact ⟨Int.le_refl _, by show (0 : Int) < d.st; omega⟩
  | cons a l ih =>
    rw [runD_cons h]
    have hi := ih (fun z hz => hw z (List.mem_cons_of_mem _ hz))
    have ha := hw a List.mem_cons_self
    exact toD_range h hi.1 hi.2 ha.1 ha.2
theorem runD_push (s : Int) (w : List Int) : runD d sy (pushL s w).reverse = toD d (runD d sy w.reverse) s sy := by
  unfold pushL
  split
  · rename_i hn
    obtain ⟨rfl, rfl⟩ := hn
    exact (toD_zero h).symm
  · exact runD_cons h s w
/-- The near symbol of a side and the state behind the rest lead to the state behind the side. -/
theorem runD_split {w : List Int} (hw : ∀ z ∈ w, 0 ≤ z ∧ z < sy) : (runD d sy (w.drop 1).reverse, hdD w) ∈ orgD d (runD d sy w.reverse) sy := by
  obtain ⟨h1, _, _, _, h0⟩ := dfaOk_parts h
  have hd : toD d (runD d sy (w.drop 1).reverse) (hdD w) sy = runD d sy w.reverse := by
    cases w with
    | nil => exact toD_zero h
    | cons a l =>
      rw [runD_cons h]
      rfl
  have hr := runD_range h (w := w.drop 1) (fun z hz => hw z (List.mem_of_mem_drop hz))
  have hx := hdD_of hw (by omega)
  obtain ⟨k, hk, e, e1, e2⟩ := dfa_idx h hr.1 hr.2 hx.1 hx.2
  unfold orgD
  rw [List.mem_filterMap]
  refine ⟨k, List.mem_range.2 hk, ?_⟩
  have hg : d.nx.getD k 0 = runD d sy w.reverse := by
    rw [← hd]
    unfold toD
    rw [e, Int.toNat_natCast]
  rw [if_pos hg, e1, e2]
end
section
variable {m : MachD} {L R : DfaD} (hm : machOk m = true) (hL : dfaOk L m.sy = true) (hR : dfaOk R m.sy = true)
include hm hL hR
/-- The abstraction behind a step is one to which the abstraction leads. -/
theorem abs_step {c : ConfD} (hc : IGood m c) (hn : ¬ lookI m c = noR) : ofA m L R (stepI (lookI m c) c) ∈ succA m L R (ofA m L R c) := by
  have hr : isR (lookI m c) = true := by
    cases hh : isR (lookI m c) with
    | true => rfl
    | false => exact absurd (by simpa [isR, rEq] using hh) hn
  have hmv : (lookI m c).m = 1 ∨ (lookI m c).m = -1 := by
    obtain ⟨_, _, hall⟩ := machOk_five hm
    obtain ⟨k, hk, e⟩ := hc.idx hm
    rw [lookI_get hk e] at hn ⊢
    have hq := hall _ (List.getElem_mem hk)
    simp only [ruleOk, hn, decide_false, Bool.false_or, Bool.and_eq_true, Bool.or_eq_true, beq_iff_eq] at hq
    exact hq.1.2
  have hlook : m.rules.getD (c.q * m.sy + hdD c.r).toNat noR = lookI m c := rfl
  unfold succA
  simp only [ofA, hlook]
  rw [if_pos hr]
  generalize lookI m c = r at *
  rcases hmv with e | e
  · rw [if_pos e]
    refine List.mem_map.2 ⟨(runD R m.sy ((c.r.drop 1).drop 1).reverse, hdD (c.r.drop 1)), runD_split hR (fun z hz => hc.r z (List.mem_of_mem_drop hz)), ?_⟩
    have e2 : stepI r c = ⟨r.n, pushL r.w c.l, c.r.drop 1⟩ := by unfold stepI; rw [if_pos (by omega)]
    rw [e2]
    simp only [runD_push hL]
  · rw [if_neg (by omega)]
    refine List.mem_map.2 ⟨(runD L m.sy (c.l.drop 1).reverse, hdD c.l), runD_split hL hc.l, ?_⟩
    have e2 : stepI r c = ⟨r.n, c.l.drop 1, pushL (hdD c.l) (pushL r.w (c.r.drop 1))⟩ := by unfold stepI; rw [if_neg (by omega)]
    rw [e2]
    simp only [hdD_push, drop_push, runD_push hR]
end
/-- A list of abstractions with a further one, where it is new. -/
def addA (l : List Outl) (a : Outl) : List Outl := if a ∈ l then l else l ++ [a]
def foldA (l xs : List Outl) : List Outl := xs.foldl addA l
theorem addA_mem {l : List Outl} {a b : Outl} : b ∈ addA l a ↔ b ∈ l ∨ b = a := by
  unfold addA
  split
  · rename_i h
    constructor
    · exact .inl
    · rintro (h1 | rfl)
      · exact h1
      · exact h
  · simp
theorem addA_nodup {l : List Outl} (h : l.Nodup) (a : Outl) : (addA l a).Nodup := by
  unfold addA
  split
  · exact h
  · rename_i hn
    rw [List.nodup_append]
    refine ⟨h, by simp, fun x hx y hy => ?_⟩
    rw [List.mem_singleton.1 hy]
    intro e
    exact hn (e ▸ hx)
theorem addA_prefix (l : List Outl) (a : Outl) : l <+: addA l a := by
  unfold addA
  split
  · exact List.prefix_rfl
  · exact List.prefix_append _ _
theorem foldA_mem : ∀ {xs l : List Outl} {b : Outl}, b ∈ foldA l xs ↔ b ∈ l ∨ b ∈ xs := by
  intro xs
  induction xs with
  | nil => intro l b; simp [foldA]
  | cons a xs ih =>
    intro l b
    show b ∈ foldA (addA l a) xs ↔ _
    rw [ih, addA_mem, List.mem_cons, or_assoc]
theorem foldA_nodup : ∀ {xs l : List Outl}, l.Nodup → (foldA l xs).Nodup := by
  intro xs
  induction xs with
  | nil => intro l h; exact h
  | cons a xs ih => intro l h; exact ih (addA_nodup h a)
theorem foldA_prefix : ∀ (xs l : List Outl), l <+: foldA l xs := by
  intro xs
  induction xs with
  | nil => intro l; exact List.prefix_rfl
  | cons a xs ih => intro l; exact (addA_prefix l a).trans (ih _)
/-- The list behind k rounds. -/
def rndA (m : MachD) (L R : DfaD) : Nat → List Outl
  | 0 => [(0, 0, 0, 0)]
  | k + 1 => match (rndA m L R k)[k]? with
    | none => rndA m L R k
    | some a => foldA (rndA m L R k) (succA m L R a)
theorem rndA_start (m : MachD) (L R : DfaD) (k : Nat) : (0, 0, 0, 0) ∈ rndA m L R k := by
  induction k with
  | zero => simp [rndA]
  | succ k ih =>
    rw [rndA]
    split
    · exact ih
    · exact foldA_mem.2 (.inl ih)
theorem rndA_prefix (m : MachD) (L R : DfaD) (k : Nat) : rndA m L R k <+: rndA m L R (k + 1) := by
  rw [rndA]
  split
  · exact List.prefix_rfl
  · exact foldA_prefix _ _
theorem rndA_nodup (m : MachD) (L R : DfaD) (k : Nat) : (rndA m L R k).Nodup := by
  induction k with
  | zero => simp [rndA]
  | succ k ih =>
    rw [rndA]
    split
    · exact ih
    · exact foldA_nodup ih
theorem rndA_done {m : MachD} {L R : DfaD} {k : Nat} : ∀ {i : Nat} {a : Outl}, i < k → (rndA m L R k)[i]? = some a → ∀ b ∈ succA m L R a, b ∈ rndA m L R k := by
  induction k with
  | zero => intro i a hi; omega
  | succ k ih =>
    intro i a hi ha b hb
    have hp := rndA_prefix m L R k
    by_cases hik : i < k
    · by_cases hlen : i < (rndA m L R k).length
      · have ha' : (rndA m L R k)[i]? = some a := by
          rw [← ha]
          obtain ⟨t, ht⟩ := hp
          rw [← ht, List.getElem?_append_left hlen]
        exact hp.subset (ih hik ha' b hb)
      · have hz : (rndA m L R k)[k]? = none := List.getElem?_eq_none (by omega)
        have he : rndA m L R (k + 1) = rndA m L R k := by rw [rndA, hz]
        rw [he] at ha ⊢
        exact ih hik ha b hb
    · obtain rfl : i = k := by omega
      by_cases hlen : i < (rndA m L R i).length
      · have ha' : (rndA m L R i)[i]? = some a := by
          rw [← ha]
          obtain ⟨t, ht⟩ := hp
          rw [← ht, List.getElem?_append_left hlen]
        rw [rndA, ha']
        exact foldA_mem.2 (.inr hb)
      · have hz : (rndA m L R i)[i]? = none := List.getElem?_eq_none (by omega)
        have he : rndA m L R (i + 1) = rndA m L R i := by rw [rndA, hz]
        rw [he, hz] at ha
        cases ha
end Go.Proofs.YtacpchapgklcgaaGreatDoor
end
section
set_option linter.unusedSimpArgs false
set_option linter.unusedVariables false
set_option linter.unusedSectionVars false
namespace Go.Proofs.YtacpchapgklcgaaGreatDoor
open Go Go.RowKit Go.Proofs
theorem nodup_len : ∀ (N : Nat) (l : List Nat), l.Nodup → (∀ x ∈ l, x < N) → l.length ≤ N := by
  intro N
  induction N with
  | zero =>
    intro l _ h
    cases l with
    | nil => exact Nat.le_refl _
    | cons a t => exact absurd (h a List.mem_cons_self) (by omega)
  | succ N ih =>
    intro l hd h
    by_cases hm : N ∈ l
    · have h1 := ih (l.erase N) (hd.erase N) (fun x hx => by
        rw [hd.mem_erase_iff] at hx
        have := h x hx.2
        omega)
      have h2 := List.length_erase_of_mem hm
      have h3 := List.length_pos_of_mem hm
      omega
    · have h1 := ih l hd (fun x hx => by
        have := h x hx
        have : x ≠ N := fun e => hm (e ▸ hx)
        omega)
      omega
/-- An outline in its range. -/
def okA (m : MachD) (L R : DfaD) (a : Outl) : Prop := (0 ≤ a.1 ∧ a.1 < L.st) ∧ (0 ≤ a.2.1 ∧ a.2.1 < m.st) ∧ (0 ≤ a.2.2.1 ∧ a.2.2.1 < m.sy) ∧ (0 ≤ a.2.2.2 ∧ a.2.2.2 < R.st)
def keyA (m : MachD) (L R : DfaD) (a : Outl) : Nat := ((a.1.toNat * m.st.toNat + a.2.1.toNat) * m.sy.toNat + a.2.2.1.toNat) * R.st.toNat + a.2.2.2.toNat
theorem pair_inj {n x y x' y' : Nat} (hy : y < n) (hy' : y' < n) (h : x * n + y = x' * n + y') : x = x' ∧ y = y' := by
  have h1 : (x * n + y) / n = x := by rw [Nat.mul_comm, Nat.mul_add_div (by omega), Nat.div_eq_of_lt hy]; rfl
  have h2 : (x' * n + y') / n = x' := by rw [Nat.mul_comm, Nat.mul_add_div (by omega), Nat.div_eq_of_lt hy']; rfl
  have hx : x = x' := by rw [← h1, h, h2]
  subst hx
  exact ⟨rfl, by omega⟩
theorem pair_lt {n N x y : Nat} (hy : y < n) (hx : x < N) : x * n + y < N * n := by
  have h1 : (x + 1) * n ≤ N * n := Nat.mul_le_mul_right n hx
  rw [Nat.add_mul, Nat.one_mul] at h1
  omega
theorem keyA_inj {m : MachD} {L R : DfaD} {a b : Outl} (ha : okA m L R a) (hb : okA m L R b) (h : keyA m L R a = keyA m L R b) : a = b := by
  obtain ⟨a1, a2, a3, a4⟩ := a
  obtain ⟨b1, b2, b3, b4⟩ := b
  obtain ⟨h1, h2, h3, h4⟩ := ha
  obtain ⟨g1, g2, g3, g4⟩ := hb
  simp only at h1 h2 h3 h4 g1 g2 g3 g4
  obtain ⟨e, e4⟩ := pair_inj (by simp only; omega) (by simp only; omega) h
  obtain ⟨e, e3⟩ := pair_inj (by simp only; omega) (by simp only; omega) e
  obtain ⟨e1, e2⟩ := pair_inj (by simp only; omega) (by simp only; omega) e
  simp only at e1 e2 e3 e4
  have f1 : a1 = b1 := by omega
  have f2 : a2 = b2 := by omega
  have f3 : a3 = b3 := by omega
  have f4 : a4 = b4 := by omega
  subst f1 f2 f3 f4
  rfl
theorem keyA_lt {m : MachD} {L R : DfaD} {a : Outl} (ha : okA m L R a) : keyA m L R a < L.st.toNat * m.st.toNat * m.sy.toNat * R.st.toNat := by
  obtain ⟨h1, h2, h3, h4⟩ := ha
  exact pair_lt (by omega) (pair_lt (by omega) (pair_lt (by omega) (by omega)))
/-- A list without repeats of outlines in their range is short. -/
theorem okA_len {m : MachD} {L R : DfaD} {l : List Outl} (hd : l.Nodup) (h : ∀ a ∈ l, okA m L R a) : l.length ≤ L.st.toNat * m.st.toNat * m.sy.toNat * R.st.toNat := by
  have h1 : (l.map (keyA m L R)).Nodup := by
    rw [List.Nodup, List.pairwise_map]
    exact hd.imp_of_mem fun ha hb hn e => hn (keyA_inj (h _ ha) (h _ hb) e)
  have h2 := nodup_len _ _ h1 (fun x hx => by
    obtain ⟨a, ha, rfl⟩ := List.mem_map.1 hx
    exact keyA_lt (h a ha))
  simpa using h2
theorem orgD_range {d : DfaD} {sy t : Int} (h : dfaOk d sy = true) {p : Int × Int} (hp : p ∈ orgD d t sy) : (0 ≤ p.1 ∧ p.1 < d.st) ∧ (0 ≤ p.2 ∧ p.2 < sy) := by
  obtain ⟨h1, h2, hl, _, _⟩ := dfaOk_parts h
  unfold orgD at hp
  rw [List.mem_filterMap] at hp
  obtain ⟨k, hk, e⟩ := hp
  rw [List.mem_range] at hk
  split at e
  · injection e with e
    subst e
    refine ⟨⟨Int.ediv_nonneg (by omega) (by omega), ?_⟩, Int.emod_nonneg _ (by omega), Int.emod_lt_of_pos _ (by omega)⟩
    apply Int.ediv_lt_of_lt_mul (by omega)
    omega
  · cases e
section
variable {m : MachD} {L R : DfaD} (hm : machOk m = true) (hL : dfaOk L m.sy = true) (hR : dfaOk R m.sy = true)
include hm hL hR
theorem succA_ok {a b : Outl} (ha : okA m L R a) (hb : b ∈ succA m L R a) : okA m L R b := by
  obtain ⟨h1, h2, h3, h4⟩ := ha
  obtain ⟨_, hlen, hall⟩ := machOk_five hm
  unfold succA at hb
  simp only at hb
  split at hb
  · rename_i hr
    have hmem : m.rules.getD (a.2.1 * m.sy + a.2.2.1).toNat noR ∈ m.rules := by
      rw [List.getD_eq_getElem?_getD]
      cases hh : m.rules[(a.2.1 * m.sy + a.2.2.1).toNat]? with
      | none =>
        rw [List.getD_eq_getElem?_getD, hh] at hr
        simp [isR, rEq] at hr
      | some r => exact List.mem_of_getElem? hh
    have hq := hall _ hmem
    generalize m.rules.getD (a.2.1 * m.sy + a.2.2.1).toNat noR = r at *
    have hn : ¬ r = noR := by simpa [isR, rEq] using hr
    simp only [ruleOk, hn, decide_false, Bool.false_or, Bool.and_eq_true, Bool.or_eq_true, beq_iff_eq, inB, decide_eq_true_eq] at hq
    split at hb
    · obtain ⟨p, hp, rfl⟩ := List.mem_map.1 hb
      have hpr := orgD_range hR hp
      have ht := toD_range hL h1.1 h1.2 (x := r.w) (by omega) (by omega)
      exact ⟨ht, ⟨by simp only; omega, by simp only; omega⟩, hpr.2, hpr.1⟩
    · obtain ⟨p, hp, rfl⟩ := List.mem_map.1 hb
      have hpr := orgD_range hL hp
      have ht := toD_range hR h4.1 h4.2 (x := r.w) (by omega) (by omega)
      exact ⟨hpr.1, ⟨by simp only; omega, by simp only; omega⟩, hpr.2, ht⟩
  · cases hb
theorem startA_ok : okA m L R (0, 0, 0, 0) := by
  obtain ⟨_, h2, _, _, _⟩ := dfaOk_parts hL
  obtain ⟨_, h3, _, _, _⟩ := dfaOk_parts hR
  have h4 := (machOk_five hm).1
  have h5 : (2 ≤ m.sy ∧ m.sy ≤ 6) ∧ 1 ≤ m.st := by
    simp only [machOk, inB, Bool.and_eq_true, decide_eq_true_eq] at hm
    omega
  exact ⟨⟨Int.le_refl _, by simp only; omega⟩, ⟨Int.le_refl _, by simp only; omega⟩, ⟨Int.le_refl _, by simp only; omega⟩, ⟨Int.le_refl _, by simp only; omega⟩⟩
theorem rndA_ok (k : Nat) : ∀ a ∈ rndA m L R k, okA m L R a := by
  induction k with
  | zero =>
    intro a ha
    rw [rndA, List.mem_singleton] at ha
    rw [ha]
    exact startA_ok hm hL hR
  | succ k ih =>
    intro a ha
    rw [rndA] at ha
    split at ha
    · exact ih a ha
    · rename_i b hb
      rcases foldA_mem.1 ha with h | h
      · exact ih a h
      · exact succA_ok hm hL hR (ih b (List.mem_of_getElem? hb)) h
theorem rndA_len (k : Nat) : (rndA m L R k).length ≤ L.st.toNat * m.st.toNat * m.sy.toNat * R.st.toNat := okA_len (rndA_nodup m L R k) (rndA_ok hm hL hR k)
end
/-- The automaton of the pairs of states. -/
def prodE (a b : DfaD) (sy : Int) (n : Nat) : Int := toD a ((n : Int) / sy / b.st) ((n : Int) % sy) sy * b.st + toD b ((n : Int) / sy % b.st) ((n : Int) % sy) sy
def prodD (a b : DfaD) (sy : Int) : DfaD := ⟨a.st * b.st, (List.range (a.st * b.st * sy).toNat).map (prodE a b sy)⟩
section
variable {a b : DfaD} {sy : Int} (ha : dfaOk a sy = true) (hb : dfaOk b sy = true)
include ha hb
theorem prodE_range {n : Nat} (hn : (n : Int) < a.st * b.st * sy) : 0 ≤ prodE a b sy n ∧ prodE a b sy n < a.st * b.st := by
  obtain ⟨h1, h2, _, _, _⟩ := dfaOk_parts ha
  obtain ⟨_, h3, _, _, _⟩ := dfaOk_parts hb
  have hx0 := Int.emod_nonneg (n : Int) (b := sy) (by omega)
  have hx1 := Int.emod_lt_of_pos (n : Int) (b := sy) (by omega)
  have hp0 : 0 ≤ (n : Int) / sy := Int.ediv_nonneg (by omega) (by omega)
  have hp1 : (n : Int) / sy < a.st * b.st := Int.ediv_lt_of_lt_mul (by omega) hn
  have hk0 := Int.emod_nonneg ((n : Int) / sy) (b := b.st) (by omega)
  have hk1 := Int.emod_lt_of_pos ((n : Int) / sy) (b := b.st) (by omega)
  have hi0 : 0 ≤ (n : Int) / sy / b.st := Int.ediv_nonneg hp0 (by omega)
  have hi1 : (n : Int) / sy / b.st < a.st := Int.ediv_lt_of_lt_mul (by omega) hp1
  have hA := toD_range ha hi0 hi1 hx0 hx1
  have hB := toD_range hb hk0 hk1 hx0 hx1
  unfold prodE
  generalize toD a ((n : Int) / sy / b.st) ((n : Int) % sy) sy = u at *
  generalize toD b ((n : Int) / sy % b.st) ((n : Int) % sy) sy = v at *
  have e1 := Int.mul_nonneg hA.1 (show 0 ≤ b.st by omega)
  have e2 : u * b.st + b.st ≤ a.st * b.st := by
    have := Int.mul_le_mul_of_nonneg_right (show u + 1 ≤ a.st from hA.2) (show 0 ≤ b.st by omega)
    rw [Int.add_mul, Int.one_mul] at this
    exact this
  omega
theorem prodD_to {i k x : Int} (i0 : 0 ≤ i) (i1 : i < a.st) (k0 : 0 ≤ k) (k1 : k < b.st) (x0 : 0 ≤ x) (x1 : x < sy) : toD (prodD a b sy) (i * b.st + k) x sy = toD a i x sy * b.st + toD b k x sy := by
  obtain ⟨h1, h2, _, _, _⟩ := dfaOk_parts ha
  obtain ⟨_, h3, _, _, _⟩ := dfaOk_parts hb
  have e1 := Int.mul_nonneg i0 (show 0 ≤ b.st by omega)
  have e2 : i * b.st + b.st ≤ a.st * b.st := by
    have := Int.mul_le_mul_of_nonneg_right (show i + 1 ≤ a.st from i1) (show 0 ≤ b.st by omega)
    rw [Int.add_mul, Int.one_mul] at this
    exact this
  obtain ⟨p, hp⟩ : ∃ p, p = i * b.st + k := ⟨_, rfl⟩
  have p0 : 0 ≤ p := by omega
  have p1 : p < a.st * b.st := by omega
  have e3 := Int.mul_nonneg p0 (show 0 ≤ sy by omega)
  have e4 : p * sy + sy ≤ a.st * b.st * sy := by
    have := Int.mul_le_mul_of_nonneg_right (show p + 1 ≤ a.st * b.st from p1) (show 0 ≤ sy by omega)
    rw [Int.add_mul, Int.one_mul] at this
    exact this
  have d1 : (p * sy + x) / sy = p := by rw [Int.add_comm, Int.add_mul_ediv_right _ _ (by omega), Int.ediv_eq_zero_of_lt x0 x1, Int.zero_add]
  have d2 : (p * sy + x) % sy = x := by rw [Int.add_comm, Int.add_mul_emod_self_right, Int.emod_eq_of_lt x0 x1]
  have d3 : p / b.st = i := by rw [hp, Int.add_comm, Int.add_mul_ediv_right _ _ (by omega), Int.ediv_eq_zero_of_lt k0 k1, Int.zero_add]
  have d4 : p % b.st = k := by rw [hp, Int.add_comm, Int.add_mul_emod_self_right, Int.emod_eq_of_lt k0 k1]
  rw [← hp]
  show ((List.range (a.st * b.st * sy).toNat).map (prodE a b sy)).getD (p * sy + x).toNat 0 = _
  have hlt : (p * sy + x).toNat < (a.st * b.st * sy).toNat := by omega
  rw [List.getD_eq_getElem?_getD, List.getElem?_map, List.getElem?_range hlt]
  simp only [Option.map_some, Option.getD_some, prodE]
  rw [Int.toNat_of_nonneg (by omega), d1, d2, d3, d4]
theorem prodD_ok (hs : a.st * b.st ≤ 20) : dfaOk (prodD a b sy) sy = true := by
  obtain ⟨h1, h2, _, _, ha0⟩ := dfaOk_parts ha
  obtain ⟨_, h3, _, _, hb0⟩ := dfaOk_parts hb
  have q0 : 1 ≤ a.st * b.st := by
    have := Int.mul_le_mul (show (1 : Int) ≤ a.st by omega) (show (1 : Int) ≤ b.st by omega) (by omega) (by omega)
    omega
  have q1 := Int.mul_nonneg (show 0 ≤ a.st * b.st by omega) (show 0 ≤ sy by omega)
  have hz := prodD_to ha hb (i := 0) (k := 0) (x := 0) (Int.le_refl _) (by omega) (Int.le_refl _) (by omega) (Int.le_refl _) (by omega)
  rw [toD_zero ha, toD_zero hb] at hz
  have hst : (prodD a b sy).st = a.st * b.st := rfl
  simp only [dfaOk, inB, Bool.and_eq_true, decide_eq_true_eq, List.all_eq_true, beq_iff_eq, hst]
  refine ⟨⟨⟨⟨by omega, by omega⟩, ?_⟩, fun z hz => ?_⟩, ?_⟩
  · show ((((List.range (a.st * b.st * sy).toNat).map (prodE a b sy)).length : Nat) : Int) = a.st * b.st * sy
    rw [List.length_map, List.length_range]
    omega
  · obtain ⟨n, hn, rfl⟩ := List.mem_map.1 hz
    rw [List.mem_range] at hn
    have := prodE_range ha hb (n := n) (by omega)
    show 0 ≤ prodE a b sy n ∧ prodE a b sy n ≤ a.st * b.st - 1
    omega
  · simpa [toD] using hz
theorem prodD_run (hs : a.st * b.st ≤ 20) {w : List Int} (hw : ∀ z ∈ w, 0 ≤ z ∧ z < sy) : runD (prodD a b sy) sy w.reverse = runD a sy w.reverse * b.st + runD b sy w.reverse := by
  induction w with
  | nil => show (0 : Int) = 0 * b.st + 0; omega
  | cons x l ih =>
    have hl : ∀ z ∈ l, 0 ≤ z ∧ z < sy := fun z hz => hw z (List.mem_cons_of_mem _ hz)
    have hx := hw x List.mem_cons_self
    have hA := runD_range ha hl
    have hB := runD_range hb hl
    rw [runD_cons (prodD_ok ha hb hs), runD_cons ha, runD_cons hb, ih hl]
    exact prodD_to ha hb hA.1 hA.2 hB.1 hB.2 hx.1 hx.2
end
end Go.Proofs.YtacpchapgklcgaaGreatDoor
end
