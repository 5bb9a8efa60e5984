/- Plain words on automata beside a machine: abstractions of configurations, and the abstractions to which one leads. -/
import Derived.Test.YtkdigfgodjjiaaaGreatRunq
set_option linter.unusedSimpArgs false
set_option linter.unusedVariables false
set_option linter.unusedSectionVars false
namespace Go.Proofs.YtkdigfgodjjiaaaGreat
open Go Go.RowKit Go.Proofs
/-- An automaton. -/
structure DfaD where
  st : Int
  nx : List Int
deriving DecidableEq
def dfaOk (d : DfaD) (sy : Int) : Bool := inB sy 2 6 && inB d.st 1 20 && decide ((d.nx.length : Int) = d.st * sy) && (d.nx.all fun z => inB z 0 (d.st - 1)) && (d.nx.getD 0 0 == 0)
def toD (d : DfaD) (s x sy : Int) : Int := d.nx.getD (s * sy + x).toNat 0
def runD (d : DfaD) (sy : Int) (w : List Int) : Int := w.foldl (fun s x => toD d s x sy) 0
abbrev Outl := Int × Int × Int × Int
theorem hdD_push (s : Int) (xs : List Int) : hdD (pushL s xs) = s := by
  unfold pushL
  split
  · rename_i h; rw [h.1]; rfl
  · rfl
theorem drop_push (s : Int) (xs : List Int) : (pushL s xs).drop 1 = xs := by
  unfold pushL
  split
  · rename_i h; rw [h.2]; rfl
  · rfl
/-- The abstraction of a configuration. -/
def ofA (m : MachD) (L R : DfaD) (c : ConfD) : Outl := (runD L m.sy c.l.reverse, c.q, hdD c.r, runD R m.sy (c.r.drop 1).reverse)
/-- The states from which a symbol leads to a state, with the symbols. -/
def orgD (d : DfaD) (t sy : Int) : List (Int × Int) := (List.range d.nx.length).filterMap fun k => if d.nx.getD k 0 = t then some ((k : Int) / sy, (k : Int) % sy) else none
/-- The abstractions to which one leads. -/
def succA (m : MachD) (L R : DfaD) (a : Outl) : List Outl :=
  let r := m.rules.getD (a.2.1 * m.sy + a.2.2.1).toNat noR
  if isR r then
    if r.m = 1 then (orgD R a.2.2.2 m.sy).map fun p => (toD L a.1 r.w m.sy, r.n, p.2, p.1)
    else (orgD L a.1 m.sy).map fun p => (p.1, r.n, p.2, toD R a.2.2.2 r.w m.sy)
  else []
theorem dfaOk_parts {d : DfaD} {sy : Int} (h : dfaOk d sy = true) : (2 ≤ sy ∧ sy ≤ 6) ∧ (1 ≤ d.st ∧ d.st ≤ 20) ∧ (d.nx.length : Int) = d.st * sy ∧ (∀ z ∈ d.nx, 0 ≤ z ∧ z < d.st) ∧ d.nx.getD 0 0 = 0 := by
  simp only [dfaOk, inB, Bool.and_eq_true, decide_eq_true_eq, List.all_eq_true, beq_iff_eq] at h
  refine ⟨by omega, by omega, h.1.1.2, fun z hz => ?_, h.2⟩
  have := h.1.2 z hz
  omega
section
variable {d : DfaD} {sy : Int} (h : dfaOk d sy = true)
include h
theorem dfa_idx {s x : Int} (s0 : 0 ≤ s) (s1 : s < d.st) (x0 : 0 ≤ x) (x1 : x < sy) : ∃ k : Nat, k < d.nx.length ∧ s * sy + x = (k : Int) ∧ (k : Int) / sy = s ∧ (k : Int) % sy = x := by
  obtain ⟨h1, h2, hl, _, _⟩ := dfaOk_parts h
  have e1 := Int.mul_nonneg s0 (show 0 ≤ sy by omega)
  have e2 : s * sy + sy ≤ d.st * sy := by
    have := Int.mul_le_mul_of_nonneg_right (show s + 1 ≤ d.st from s1) (show 0 ≤ sy by omega)
    rw [Int.add_mul, Int.one_mul] at this
    exact this
  refine ⟨(s * sy + x).toNat, by omega, by omega, ?_, ?_⟩
  · rw [Int.toNat_of_nonneg (by omega), Int.add_comm, Int.add_mul_ediv_right _ _ (by omega), Int.ediv_eq_zero_of_lt x0 x1, Int.zero_add]
  · rw [Int.toNat_of_nonneg (by omega), Int.add_comm, Int.add_mul_emod_self_right, Int.emod_eq_of_lt x0 x1]
theorem toD_range {s x : Int} (s0 : 0 ≤ s) (s1 : s < d.st) (x0 : 0 ≤ x) (x1 : x < sy) : 0 ≤ toD d s x sy ∧ toD d s x sy < d.st := by
  obtain ⟨_, _, _, ha, _⟩ := dfaOk_parts h
  obtain ⟨k, hk, e, _, _⟩ := dfa_idx h s0 s1 x0 x1
  unfold toD
  rw [e, Int.toNat_natCast, List.getD_eq_getElem?_getD, List.getElem?_eq_getElem hk, Option.getD_some]
  exact ha _ (List.getElem_mem hk)
theorem toD_zero : toD d 0 0 sy = 0 := by
  obtain ⟨_, _, _, _, h0⟩ := dfaOk_parts h
  unfold toD
  simpa using h0
theorem runD_snoc (w : List Int) (x : Int) : runD d sy (w ++ [x]) = toD d (runD d sy w) x sy := by
  unfold runD
  rw [List.foldl_append]
  rfl
theorem runD_cons (x : Int) (w : List Int) : runD d sy (x :: w).reverse = toD d (runD d sy w.reverse) x sy := by
  rw [List.reverse_cons, runD_snoc h]
theorem runD_range {w : List Int} (hw : ∀ z ∈ w, 0 ≤ z ∧ z < sy) : 0 ≤ runD d sy w.reverse ∧ runD d sy w.reverse < d.st := by
  obtain ⟨_, h2, _, _, _⟩ := dfaOk_parts h
  induction w with
  | nil => exact ⟨Int.le_refl _, by show (0 : Int) < d.st; omega⟩
  | cons a l ih =>
    rw [runD_cons h]
    have hi := ih (fun z hz => hw z (List.mem_cons_of_mem _ hz))
    have ha := hw a List.mem_cons_self
    exact toD_range h hi.1 hi.2 ha.1 ha.2
theorem runD_push (s : Int) (w : List Int) : runD d sy (pushL s w).reverse = toD d (runD d sy w.reverse) s sy := by
  unfold pushL
  split
  · rename_i hn
    obtain ⟨rfl, rfl⟩ := hn
    exact (toD_zero h).symm
  · exact runD_cons h s w
/-- The near symbol of a side and the state behind the rest lead to the state behind the side. -/
theorem runD_split {w : List Int} (hw : ∀ z ∈ w, 0 ≤ z ∧ z < sy) : (runD d sy (w.drop 1).reverse, hdD w) ∈ orgD d (runD d sy w.reverse) sy := by
  obtain ⟨h1, _, _, _, h0⟩ := dfaOk_parts h
  have hd : toD d (runD d sy (w.drop 1).reverse) (hdD w) sy = runD d sy w.reverse := by
    cases w with
    | nil => exact toD_zero h
    | cons a l =>
      rw [runD_cons h]
      rfl
  have hr := runD_range h (w := w.drop 1) (fun z hz => hw z (List.mem_of_mem_drop hz))
  have hx := hdD_of hw (by omega)
  obtain ⟨k, hk, e, e1, e2⟩ := dfa_idx h hr.1 hr.2 hx.1 hx.2
  unfold orgD
  rw [List.mem_filterMap]
  refine ⟨k, List.mem_range.2 hk, ?_⟩
  have hg : d.nx.getD k 0 = runD d sy w.reverse := by
    rw [← hd]
    unfold toD
    rw [e, Int.toNat_natCast]
  rw [if_pos hg, e1, e2]
end
section
variable {m : MachD} {L R : DfaD} (hm : machOk m = true) (hL : dfaOk L m.sy = true) (hR : dfaOk R m.sy = true)
include hm hL hR
/-- The abstraction behind a step is one to which the abstraction leads. -/
theorem abs_step {c : ConfD} (hc : IGood m c) (hn : ¬ lookI m c = noR) : ofA m L R (stepI (lookI m c) c) ∈ succA m L R (ofA m L R c) := by
  have hr : isR (lookI m c) = true := by
    cases hh : isR (lookI m c) with
    | true => rfl
    | false => exact absurd (by simpa [isR, rEq] using hh) hn
  have hmv : (lookI m c).m = 1 ∨ (lookI m c).m = -1 := by
    obtain ⟨_, _, hall⟩ := machOk_five hm
    obtain ⟨k, hk, e⟩ := hc.idx hm
    rw [lookI_get hk e] at hn ⊢
    have hq := hall _ (List.getElem_mem hk)
    simp only [ruleOk, hn, decide_false, Bool.false_or, Bool.and_eq_true, Bool.or_eq_true, beq_iff_eq] at hq
    exact hq.1.2
  have hlook : m.rules.getD (c.q * m.sy + hdD c.r).toNat noR = lookI m c := rfl
  unfold succA
  simp only [ofA, hlook]
  rw [if_pos hr]
  generalize lookI m c = r at *
  rcases hmv with e | e
  · rw [if_pos e]
    refine List.mem_map.2 ⟨(runD R m.sy ((c.r.drop 1).drop 1).reverse, hdD (c.r.drop 1)), runD_split hR (fun z hz => hc.r z (List.mem_of_mem_drop hz)), ?_⟩
    have e2 : stepI r c = ⟨r.n, pushL r.w c.l, c.r.drop 1⟩ := by unfold stepI; rw [if_pos (by omega)]
    rw [e2]
    simp only [runD_push hL]
  · rw [if_neg (by omega)]
    refine List.mem_map.2 ⟨(runD L m.sy (c.l.drop 1).reverse, hdD c.l), runD_split hL hc.l, ?_⟩
    have e2 : stepI r c = ⟨r.n, c.l.drop 1, pushL (hdD c.l) (pushL r.w (c.r.drop 1))⟩ := by unfold stepI; rw [if_neg (by omega)]
    rw [e2]
    simp only [hdD_push, drop_push, runD_push hR]
end
/-- A list of abstractions with a further one, where it is new. -/
def addA (l : List Outl) (a : Outl) : List Outl := if a ∈ l then l else l ++ [a]
def foldA (l xs : List Outl) : List Outl := xs.foldl addA l
theorem addA_mem {l : List Outl} {a b : Outl} : b ∈ addA l a ↔ b ∈ l ∨ b = a := by
  unfold addA
  split
  · rename_i h
    constructor
    · exact .inl
    · rintro (h1 | rfl)
      · exact h1
      · exact h
  · simp
theorem addA_nodup {l : List Outl} (h : l.Nodup) (a : Outl) : (addA l a).Nodup := by
  unfold addA
  split
  · exact h
  · rename_i hn
    rw [List.nodup_append]
    refine ⟨h, by simp, fun x hx y hy => ?_⟩
    rw [List.mem_singleton.1 hy]
    intro e
    exact hn (e ▸ hx)
theorem addA_prefix (l : List Outl) (a : Outl) : l <+: addA l a := by
  unfold addA
  split
  · exact List.prefix_rfl
  · exact List.prefix_append _ _
theorem foldA_mem : ∀ {xs l : List Outl} {b : Outl}, b ∈ foldA l xs ↔ b ∈ l ∨ b ∈ xs := by
  intro xs
  induction xs with
  | nil => intro l b; simp [foldA]
  | cons a xs ih =>
    intro l b
    show b ∈ foldA (addA l a) xs ↔ _
    rw [ih, addA_mem, List.mem_cons, or_assoc]
theorem foldA_nodup : ∀ {xs l : List Outl}, l.Nodup → (foldA l xs).Nodup := by
  intro xs
  induction xs with
  | nil => intro l h; exact h
  | cons a xs ih => intro l h; exact ih (addA_nodup h a)
theorem foldA_prefix : ∀ (xs l : List Outl), l <+: foldA l xs := by
  intro xs
  induction xs with
  | nil => intro l; exact List.prefix_rfl
  | cons a xs ih => intro l; exact (addA_prefix l a).trans (ih _)
/-- The list behind k rounds. -/
def rndA (m : MachD) (L R : DfaD) : Nat → List Outl
  | 0 => [(0, 0, 0, 0)]
  | k + 1 => match (rndA m L R k)[k]? with
    | none => rndA m L R k
    | some a => foldA (rndA m L R k) (succA m L R a)
theorem rndA_start (m : MachD) (L R : DfaD) (k : Nat) : (0, 0, 0, 0) ∈ rndA m L R k := by
  induction k with
  | zero => simp [rndA]
  | succ k ih =>
    rw [rndA]
    split
    · exact ih
    · exact foldA_mem.2 (.inl ih)
theorem rndA_prefix (m : MachD) (L R : DfaD) (k : Nat) : rndA m L R k <+: rndA m L R (k + 1) := by
  rw [rndA]
  split
  · exact List.prefix_rfl
  · exact foldA_prefix _ _
theorem rndA_nodup (m : MachD) (L R : DfaD) (k : Nat) : (rndA m L R k).Nodup := by
  induction k with
  | zero => simp [rndA]
  | succ k ih =>
    rw [rndA]
    split
    · exact ih
    · exact foldA_nodup ih
theorem rndA_done {m : MachD} {L R : DfaD} {k : Nat} : ∀ {i : Nat} {a : Outl}, i < k → (rndA m L R k)[i]? = some a → ∀ b ∈ succA m L R a, b ∈ rndA m L R k := by
  induction k with
  | zero => intro i a hi; omega
  | succ k ih =>
    intro i a hi ha b hb
    have hp := rndA_prefix m L R k
    by_cases hik : i < k
    · by_cases hlen : i < (rndA m L R k).length
      · have ha' : (rndA m L R k)[i]? = some a := by
          rw [← ha]
          obtain ⟨t, ht⟩ := hp
          rw [← ht, List.getElem?_append_left hlen]
        exact hp.subset (ih hik ha' b hb)
      · have hz : (rndA m L R k)[k]? = none := List.getElem?_eq_none (by omega)
        have he : rndA m L R (k + 1) = rndA m L R k := by rw [rndA, hz]
        rw [he] at ha ⊢
        exact ih hik ha b hb
    · obtain rfl : i = k := by omega
      by_cases hlen : i < (rndA m L R i).length
      · have ha' : (rndA m L R i)[i]? = some a := by
          rw [← ha]
          obtain ⟨t, ht⟩ := hp
          rw [← ht, List.getElem?_append_left hlen]
        rw [rndA, ha']
        exact foldA_mem.2 (.inr hb)
      · have hz : (rndA m L R i)[i]? = none := List.getElem?_eq_none (by omega)
        have he : rndA m L R (i + 1) = rndA m L R i := by rw [rndA, hz]
        rw [he, hz] at ha
        cases ha
end Go.Proofs.YtkdigfgodjjiaaaGreat
