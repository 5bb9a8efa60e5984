/- Plain words on configurations of a machine: one that is valid, and the reference's step of it.
The order of lists of numbers, and the library's comparison of two.
Plain words on machines with several tapes, as the program runs them. -/
import Derived.Test.YtojiammendjpkaaGreatB07
import Derived.Test.YtojiammendjpkaaGreatB08
import Derived.Test.YtojiammendjpkaaGreatB04
import Derived.Sort.Statements
import Derived.Test.YtojiammendjpkaaGreatB05
section
set_option linter.unusedSimpArgs false
set_option linter.unusedVariables false
namespace Go.Proofs.YtojiammendjpkaaGreat
open Go Go.RowKit Go.Proofs
theorem conf_good {m : MachD} {c : ConfD} (h : confB m c = true) : IGood m c ∧ (c.l.length ≤ 200 ∧ c.r.length ≤ 200) ∧ tidyL c.l ∧ tidyL c.r := by
  simp only [confB, sideOk, inB, Bool.and_eq_true, Bool.or_eq_true, decide_eq_true_eq, List.all_eq_true, beq_iff_eq, bne_iff_ne, ne_eq] at h
  obtain ⟨⟨hq, ⟨hl1, hl2⟩, hl3⟩, ⟨hr1, hr2⟩, hr3⟩ := h
  refine ⟨⟨by omega, by omega, fun z hz => by have := hl2 z hz; omega, fun z hz => by have := hr2 z hz; omega⟩, ⟨by omega, by omega⟩, ?_, ?_⟩
  · rcases hl3 with h | h
    · exact .inl (List.length_eq_zero_iff.1 (by omega))
    · exact .inr h
  · rcases hr3 with h | h
    · exact .inl (List.length_eq_zero_iff.1 (by omega))
    · exact .inr h
theorem conf_back {m : MachD} {c : ConfD} (hg : IGood m c) (hf : c.l.length ≤ 200 ∧ c.r.length ≤ 200) (ht : tidyL c.l ∧ tidyL c.r) : confB m c = true := by
  have side : ∀ xs : List Int, xs.length ≤ 200 → (∀ z ∈ xs, 0 ≤ z ∧ z < m.sy) → tidyL xs → sideOk xs m.sy 200 = true := fun xs h1 h2 h3 => by
    simp only [sideOk, inB, Bool.and_eq_true, Bool.or_eq_true, decide_eq_true_eq, List.all_eq_true, beq_iff_eq, bne_iff_ne, ne_eq]
    refine ⟨⟨by omega, fun z hz => by have := h2 z hz; omega⟩, ?_⟩
    rcases h3 with h3 | h3
    · left; rw [h3]; rfl
    · exact .inr h3
  simp only [confB, Bool.and_eq_true]
  refine ⟨⟨?_, side _ hf.1 hg.l ht.1⟩, side _ hf.2 hg.r ht.2⟩
  have h0 := hg.q0
  have h1 := hg.q1
  simp only [inB, Bool.and_eq_true, decide_eq_true_eq]
  omega
/-- The reference's words on a configuration. -/
def cR (c : ConfD) : ConfR := ⟨c.q, c.l, c.r⟩
end Go.Proofs.YtojiammendjpkaaGreat
end
section
set_option linter.unusedSimpArgs false
set_option linter.unusedVariables false
set_option linter.unusedSectionVars false
set_option maxHeartbeats 4000000
namespace Go.Proofs.YtojiammendjpkaaGreat
open Go Go.RowKit Go.Proofs
/-- How two lists stand to one another. -/
def cmpL : List Int → List Int → Int
  | [], [] => 0
  | [], _ :: _ => -1
  | _ :: _, [] => 1
  | a :: s, b :: t => if a < b then -1 else if b < a then 1 else cmpL s t
end Go.Proofs.YtojiammendjpkaaGreat
end
section
set_option linter.unusedVariables false
set_option linter.unusedSimpArgs false
namespace Go.Proofs.YtojiammendjpkaaGreat
open Go Go.RowKit Go.Proofs
structure MRuleD where
  st : Int
  rd : List Int
  wr : List Int
  mv : List Int
  nx : Int
deriving DecidableEq
structure MultiD where
  tp : Int
  sy : Int
  st : Int
  rules : List MRuleD
deriving DecidableEq
structure TapeD where
  l : List Int
  r : List Int
deriving DecidableEq
structure MConfD where
  q : Int
  tapes : List TapeD
deriving DecidableEq
def mr0 : MRuleD := ⟨0, [], [], [], 0⟩
def cmpM (a b : MRuleD) : Int := if a.st = b.st then cmpL a.rd b.rd else if a.st < b.st then -1 else 1
def allIn (xs : List Int) (lo hi : Int) : Bool := xs.all fun z => inB z lo hi
def mruleOk (m : MultiD) (r : MRuleD) : Bool :=
  inB r.st 0 (m.st - 1) && inB r.nx 0 (m.st - 1) && decide ((r.rd.length : Int) = m.tp) && decide ((r.wr.length : Int) = m.tp) && decide ((r.mv.length : Int) = m.tp) &&
    allIn r.rd 0 (m.sy - 1) && allIn r.wr 0 (m.sy - 1) && allIn r.mv (-1) 1
/-- A rule is valid and behind the one before it. -/
def mstepOk (m : MultiD) (k : Nat) : Bool := mruleOk m (m.rules.getD k mr0) && (decide (k = 0) || decide (cmpM (m.rules.getD (k - 1) mr0) (m.rules.getD k mr0) < 0))
def multiOk (m : MultiD) : Bool := inB m.tp 2 3 && inB m.sy 2 3 && inB m.st 1 16 && decide (m.rules.length ≤ 60) && (List.range m.rules.length).all (mstepOk m)
theorem multi_all {m : MultiD} (h : multiOk m = true) : (2 ≤ m.tp ∧ m.tp ≤ 3) ∧ (2 ≤ m.sy ∧ m.sy ≤ 3) ∧ (1 ≤ m.st ∧ m.st ≤ 16) ∧ m.rules.length ≤ 60 ∧ ∀ k, k < m.rules.length → mstepOk m k = true := by
  simp only [multiOk, Bool.and_eq_true, decide_eq_true_eq, List.all_eq_true, List.mem_range] at h
  obtain ⟨⟨⟨⟨h1, h2⟩, h3⟩, h4⟩, h5⟩ := h
  exact ⟨inB_iff.1 h1, inB_iff.1 h2, inB_iff.1 h3, h4, h5⟩
theorem mrule_all {m : MultiD} {r : MRuleD} (h : mruleOk m r = true) : (0 ≤ r.st ∧ r.st ≤ m.st - 1) ∧ (0 ≤ r.nx ∧ r.nx ≤ m.st - 1) ∧ (r.rd.length : Int) = m.tp ∧ (r.wr.length : Int) = m.tp ∧ (r.mv.length : Int) = m.tp ∧
    (∀ z ∈ r.rd, 0 ≤ z ∧ z ≤ m.sy - 1) ∧ (∀ z ∈ r.wr, 0 ≤ z ∧ z ≤ m.sy - 1) ∧ (∀ z ∈ r.mv, -1 ≤ z ∧ z ≤ 1) := by
  simp only [mruleOk, allIn, Bool.and_eq_true, decide_eq_true_eq, List.all_eq_true] at h
  obtain ⟨⟨⟨⟨⟨⟨⟨h1, h2⟩, h3⟩, h4⟩, h5⟩, h6⟩, h7⟩, h8⟩ := h
  exact ⟨inB_iff.1 h1, inB_iff.1 h2, h3, h4, h5, fun z hz => inB_iff.1 (h6 z hz), fun z hz => inB_iff.1 (h7 z hz), fun z hz => inB_iff.1 (h8 z hz)⟩
theorem multi_rule {m : MultiD} (h : multiOk m = true) {k : Nat} (hk : k < m.rules.length) : mruleOk m m.rules[k] = true := by
  have h1 := (multi_all h).2.2.2.2 k hk
  simp only [mstepOk, Bool.and_eq_true] at h1
  have e : m.rules.getD k mr0 = m.rules[k] := by rw [List.getD_eq_getElem?_getD, List.getElem?_eq_getElem hk]; rfl
  rw [e] at h1
  exact h1.1
/-- A state and three symbols, the first ones of a list. -/
abbrev KeyM := Int × Int × Int × Int
def key3 (q : Int) (xs : List Int) : KeyM := (q, xs.getD 0 0, xs.getD 1 0, xs.getD 2 0)
def headT (t : TapeD) : Int := t.r.getD 0 0
def readM (c : MConfD) : KeyM := key3 c.q (c.tapes.map headT)
/-- The index of the last rule among the first k that has a key. -/
def findM (rs : List MRuleD) (x : KeyM) : Nat → Option Nat
  | 0 => none
  | k + 1 => if key3 (rs.getD k mr0).st (rs.getD k mr0).rd = x then some k else findM rs x k
theorem findM_lt {rs : List MRuleD} {x : KeyM} : ∀ {k i : Nat}, findM rs x k = some i → i < k
  | 0, i, h => by simp [findM] at h
  | k + 1, i, h => by
    unfold findM at h
    split at h
    · injection h with h; omega
    · have := findM_lt h; omega
def lookM (rs : List MRuleD) (c : MConfD) : Option Nat := findM rs (readM c) rs.length
def writeR (t : TapeD) (s : Int) : List Int := s :: t.r.drop 1
def writeT (t : TapeD) (s mv : Int) : TapeD :=
  if mv = 1 then ⟨trim (s :: t.l), trim (t.r.drop 1)⟩
  else if mv = -1 then ⟨trim (t.l.drop 1), trim (t.l.getD 0 0 :: writeR t s)⟩
  else ⟨trim t.l, trim (writeR t s)⟩
def writeAll : List TapeD → List Int → List Int → List TapeD
  | t :: ts, ws, ms => writeT t (ws.getD 0 0) (ms.getD 0 0) :: writeAll ts (ws.drop 1) (ms.drop 1)
  | [], _, _ => []
theorem writeAll_length : ∀ (ts : List TapeD) (ws ms : List Int), (writeAll ts ws ms).length = ts.length
  | [], _, _ => rfl
  | _ :: ts, ws, ms => by simp [writeAll, writeAll_length ts]
theorem writeAll_get : ∀ (ts : List TapeD) (ws ms : List Int) (k : Nat) (h : k < ts.length), (writeAll ts ws ms)[k]'(by rw [writeAll_length]; exact h) = writeT ts[k] (ws.getD k 0) (ms.getD k 0)
  | t :: ts, ws, ms, 0, _ => rfl
  | t :: ts, ws, ms, k + 1, h => by
    have := writeAll_get ts (ws.drop 1) (ms.drop 1) k (by simpa using h)
    simp only [writeAll, List.getElem_cons_succ, this]
    simp [List.getD_eq_getElem?_getD, List.getElem?_drop, Nat.add_comm]
def applyM (c : MConfD) (r : MRuleD) : MConfD := ⟨r.nx, writeAll c.tapes r.wr r.mv⟩
def roomT (t : TapeD) : Bool := decide (t.l.length ≤ 200) && decide (t.r.length ≤ 200)
def roomM (c : MConfD) : Bool := c.tapes.all roomT
def stepM (rs : List MRuleD) (c : MConfD) : MConfD := match lookM rs c with | none => c | some i => applyM c (rs.getD i mr0)
def cfgM (rs : List MRuleD) (c : MConfD) : Nat → MConfD
  | 0 => c
  | n + 1 => stepM rs (cfgM rs c n)
/-- The run makes i steps, with room. -/
structure MRuns (rs : List MRuleD) (c : MConfD) (i : Nat) : Prop where
  no : ∀ j, j < i → lookM rs (cfgM rs c j) ≠ none
  room : ∀ j, j ≤ i → roomM (cfgM rs c j) = true
/-- The run ends behind i steps. -/
structure MEnd (rs : List MRuleD) (c : MConfD) (N i : Nat) : Prop where
  runs : MRuns rs c i
  le : i ≤ N
  stop : i = N ∨ lookM rs (cfgM rs c i) = none
theorem MRuns.zero {rs : List MRuleD} {c : MConfD} (h : roomM c = true) : MRuns rs c 0 := ⟨fun j hj => by omega, fun j hj => by have e : j = 0 := (by omega); subst e; exact h⟩
theorem MRuns.succ {rs : List MRuleD} {c : MConfD} {i : Nat} (h : MRuns rs c i) (h1 : lookM rs (cfgM rs c i) ≠ none) (h2 : roomM (cfgM rs c (i + 1)) = true) : MRuns rs c (i + 1) :=
  ⟨fun j hj => by
    by_cases e : j = i
    · rw [e]; exact h1
    · exact h.no j (by omega), fun j hj => by
    by_cases e : j = i + 1
    · rw [e]; exact h2
    · exact h.room j (by omega)⟩
end Go.Proofs.YtojiammendjpkaaGreat
end
