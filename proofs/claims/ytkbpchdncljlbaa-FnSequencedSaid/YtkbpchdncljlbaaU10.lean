/- Plain words on machines with several tapes, as the program runs them.
Plain words: the run of a machine with several tapes as a function, its beginning on words, the word on a tape, the copier and the machine of palindromes with three symbols. -/
import Derived.Test.YtkbpchdncljlbaaU09
import Derived.Test.YtkbpchdncljlbaaU07
section
set_option linter.unusedVariables false
set_option linter.unusedSimpArgs false
namespace Go.Proofs.Ytkbpchdncljlbaa
open Go Go.RowKit Go.Proofs
structure MRuleD where
  st : Int
  rd : List Int
  wr : List Int
  mv : List Int
  nx : Int
deriving DecidableEq
structure MultiD where
  tp : Int
  sy : Int
  st : Int
  rules : List MRuleD
deriving DecidableEq
structure TapeD where
  l : List Int
  r : List Int
deriving DecidableEq
structure MConfD where
  q : Int
  tapes : List TapeD
deriving DecidableEq
def mr0 : MRuleD := ⟨0, [], [], [], 0⟩
def cmpM (a b : MRuleD) : Int := if a.st = b.st then cmpL a.rd b.rd else if a.st < b.st then -1 else 1
def allIn (xs : List Int) (lo hi : Int) : Bool := xs.all fun z => inB z lo hi
def mruleOk (m : MultiD) (r : MRuleD) : Bool :=
  inB r.st 0 (m.st - 1) && inB r.nx 0 (m.st - 1) && decide ((r.rd.length : Int) = m.tp) && decide ((r.wr.length : Int) = m.tp) && decide ((r.mv.length : Int) = m.tp) &&
    allIn r.rd 0 (m.sy - 1) && allIn r.wr 0 (m.sy - 1) && allIn r.mv (-1) 1
/-- A rule is valid and behind the one before it. -/
def mstepOk (m : MultiD) (k : Nat) : Bool := mruleOk m (m.rules.getD k mr0) && (decide (k = 0) || decide (cmpM (m.rules.getD (k - 1) mr0) (m.rules.getD k mr0) < 0))
def multiOk (m : MultiD) : Bool := inB m.tp 2 3 && inB m.sy 2 3 && inB m.st 1 16 && decide (m.rules.length ≤ 60) && (List.range m.rules.length).all (mstepOk m)
theorem multi_all {m : MultiD} (h : multiOk m = true) : (2 ≤ m.tp ∧ m.tp ≤ 3) ∧ (2 ≤ m.sy ∧ m.sy ≤ 3) ∧ (1 ≤ m.st ∧ m.st ≤ 16) ∧ m.rules.length ≤ 60 ∧ ∀ k, k < m.rules.length → mstepOk m k = true := by
  simp only [multiOk, Bool.and_eq_true, decide_eq_true_eq, List.all_eq_true, List.mem_range] at h
  obtain ⟨⟨⟨⟨h1, h2⟩, h3⟩, h4⟩, h5⟩ := h
  exact ⟨inB_iff.1 h1, inB_iff.1 h2, inB_iff.1 h3, h4, h5⟩
theorem mrule_all {m : MultiD} {r : MRuleD} (h : mruleOk m r = true) : (0 ≤ r.st ∧ r.st ≤ m.st - 1) ∧ (0 ≤ r.nx ∧ r.nx ≤ m.st - 1) ∧ (r.rd.length : Int) = m.tp ∧ (r.wr.length : Int) = m.tp ∧ (r.mv.length : Int) = m.tp ∧
    (∀ z ∈ r.rd, 0 ≤ z ∧ z ≤ m.sy - 1) ∧ (∀ z ∈ r.wr, 0 ≤ z ∧ z ≤ m.sy - 1) ∧ (∀ z ∈ r.mv, -1 ≤ z ∧ z ≤ 1) := by
  simp only [mruleOk, allIn, Bool.and_eq_true, decide_eq_true_eq, List.all_eq_true] at h
  obtain ⟨⟨⟨⟨⟨⟨⟨h1, h2⟩, h3⟩, h4⟩, h5⟩, h6⟩, h7⟩, h8⟩ := h
  exact ⟨inB_iff.1 h1, inB_iff.1 h2, h3, h4, h5, fun z hz => inB_iff.1 (h6 z hz), fun z hz => inB_iff.1 (h7 z hz), fun z hz => inB_iff.1 (h8 z hz)⟩
theorem multi_rule {m : MultiD} (h : multiOk m = true) {k : Nat} (hk : k < m.rules.length) : mruleOk m m.rules[k] = true := by
  have h1 := (multi_all h).2.2.2.2 k hk
  simp only [mstepOk, Bool.and_eq_true] at h1
  have e : m.rules.getD k mr0 = m.rules[k] := by rw [List.getD_eq_getElem?_getD, List.getElem?_eq_getElem hk]; rfl
  rw [e] at h1
  exact h1.1
/-- A state and three symbols, the first ones of a list. -/
abbrev KeyM := Int × Int × Int × Int
def key3 (q : Int) (xs : List Int) : KeyM := (q, xs.getD 0 0, xs.getD 1 0, xs.getD 2 0)
def headT (t : TapeD) : Int := t.r.getD 0 0
def readM (c : MConfD) : KeyM := key3 c.q (c.tapes.map headT)
/-- The index of the last rule among the first k that has a key. -/
def findM (rs : List MRuleD) (x : KeyM) : Nat → Option Nat
  | 0 => none
  | k + 1 => if key3 (rs.getD k mr0).st (rs.getD k mr0).rd = x then some k else findM rs x k
theorem findM_lt {rs : List MRuleD} {x : KeyM} : ∀ {k i : Nat}, findM rs x k = some i → i < k
  | 0, i, h => by simp [findM] at h
  | k + 1, i, h => by
    unfold findM at h
    split at h
    · injection h with h; omega
    · have := findM_lt h; omega
def lookM (rs : List MRuleD) (c : MConfD) : Option Nat := findM rs (readM c) rs.length
def writeR (t : TapeD) (s : Int) : List Int := s :: t.r.drop 1
def writeT (t : TapeD) (s mv : Int) : TapeD :=
  if mv = 1 then ⟨trim (s :: t.l), trim (t.r.drop 1)⟩
  else if mv = -1 then ⟨trim (t.l.drop 1), trim (t.l.getD 0 0 :: writeR t s)⟩
  else ⟨trim t.l, trim (writeR t s)⟩
def writeAll : List TapeD → List Int → List Int → List TapeD
  | t :: ts, ws, ms => writeT t (ws.getD 0 0) (ms.getD 0 0) :: writeAll ts (ws.drop 1) (ms.drop 1)
  | [], _, _ => []
theorem writeAll_length : ∀ (ts : List TapeD) (ws ms : List Int), (writeAll ts ws ms).length = ts.length
  | [], _, _ => rfl
  | _ :: ts, ws, ms => by simp [writeAll, writeAll_length ts]
theorem writeAll_get : ∀ (ts : List TapeD) (ws ms : List Int) (k : Nat) (h : k < ts.length), (writeAll ts ws ms)[k]'(by rw [writeAll_length]; exact h) = writeT ts[k] (ws.getD k 0) (ms.getD k 0)
  | t :: ts, ws, ms, 0, _ => rfl
  | t :: ts, ws, ms, k + 1, h => by
    have := writeAll_get ts (ws.drop 1) (ms.drop 1) k (by simpa using h)
    simp only [writeAll, List.getElem_cons_succ, this]
    simp [List.getD_eq_getElem?_getD, List.getElem?_drop, Nat.add_comm]
def applyM (c : MConfD) (r : MRuleD) : MConfD := ⟨r.nx, writeAll c.tapes r.wr r.mv⟩
def roomT (t : TapeD) : Bool := decide (t.l.length ≤ 200) && decide (t.r.length ≤ 200)
def roomM (c : MConfD) : Bool := c.tapes.all roomT
def stepM (rs : List MRuleD) (c : MConfD) : MConfD := match lookM rs c with | none => c | some i => applyM c (rs.getD i mr0)
def cfgM (rs : List MRuleD) (c : MConfD) : Nat → MConfD
  | 0 => c
  | n + 1 => stepM rs (cfgM rs c n)
theorem cfgM_tapes (rs : List MRuleD) (c : MConfD) : ∀ n, (cfgM rs c n).tapes.length = c.tapes.length
  | 0 => rfl
  | n + 1 => by
    have ih := cfgM_tapes rs c n
    unfold cfgM stepM
    split
    · exact ih
    · simp [applyM, writeAll_length, ih]
/-- The run makes i steps, with room. -/
structure MRuns (rs : List MRuleD) (c : MConfD) (i : Nat) : Prop where
  no : ∀ j, j < i → lookM rs (cfgM rs c j) ≠ none
  room : ∀ j, j ≤ i → roomM (cfgM rs c j) = true
/-- The run ends behind i steps. -/
structure MEnd (rs : List MRuleD) (c : MConfD) (N i : Nat) : Prop where
  runs : MRuns rs c i
  le : i ≤ N
  stop : i = N ∨ lookM rs (cfgM rs c i) = none
/-- There is no room behind i steps. -/
structure MFull (rs : List MRuleD) (c : MConfD) (N i : Nat) : Prop where
  pos : 0 < i
  runs : MRuns rs c (i - 1)
  le : i ≤ N
  no : lookM rs (cfgM rs c (i - 1)) ≠ none
  full : roomM (cfgM rs c i) = false
theorem MRuns.zero {rs : List MRuleD} {c : MConfD} (h : roomM c = true) : MRuns rs c 0 := ⟨fun j hj => by omega, fun j hj => by have e : j = 0 := (by omega); subst e; exact h⟩
theorem MRuns.succ {rs : List MRuleD} {c : MConfD} {i : Nat} (h : MRuns rs c i) (h1 : lookM rs (cfgM rs c i) ≠ none) (h2 : roomM (cfgM rs c (i + 1)) = true) : MRuns rs c (i + 1) :=
  ⟨fun j hj => by
    by_cases e : j = i
    · rw [e]; exact h1
    · exact h.no j (by omega), fun j hj => by
    by_cases e : j = i + 1
    · rw [e]; exact h2
    · exact h.room j (by omega)⟩
def tapeOk (m : MultiD) (t : TapeD) : Bool := sideOk t.l m.sy 200 && sideOk t.r m.sy 200
def mconfOk (m : MultiD) (c : MConfD) : Bool := multiOk m && inB c.q 0 (m.st - 1) && decide ((c.tapes.length : Int) = m.tp) && c.tapes.all (tapeOk m)
end Go.Proofs.Ytkbpchdncljlbaa
end
section
set_option linter.unusedVariables false
set_option linter.unusedSimpArgs false
namespace Go.Proofs.Ytkbpchdncljlbaa
open Go Go.RowKit Go.Proofs
/-- At most N steps: how many, whether it halts, where; nothing without room. -/
def runB (rs : List MRuleD) : Nat → MConfD → Option (Nat × Bool × MConfD)
  | 0, c => some (0, (lookM rs c).isNone, c)
  | N + 1, c => match lookM rs c with
    | none => some (0, true, c)
    | some i => if roomM (applyM c (rs.getD i mr0)) then (match runB rs N (applyM c (rs.getD i mr0)) with | some (k, h, x) => some (k + 1, h, x) | none => none) else none
theorem cfgM_shift (rs : List MRuleD) (c : MConfD) : ∀ i, cfgM rs c (i + 1) = cfgM rs (stepM rs c) i
  | 0 => rfl
  | i + 1 => by
    show stepM rs (cfgM rs c (i + 1)) = stepM rs (cfgM rs (stepM rs c) i)
    rw [cfgM_shift rs c i]
theorem MRuns.tail {rs : List MRuleD} {c : MConfD} {i : Nat} (h : MRuns rs c (i + 1)) : MRuns rs (stepM rs c) i :=
  ⟨fun j hj => by rw [← cfgM_shift]; exact h.no (j + 1) (by omega), fun j hj => by rw [← cfgM_shift]; exact h.room (j + 1) (by omega)⟩
theorem step_some {rs : List MRuleD} {c : MConfD} {i : Nat} (h : lookM rs c = some i) : stepM rs c = applyM c (rs.getD i mr0) := by unfold stepM; rw [h]
theorem runB_end (rs : List MRuleD) : ∀ (N : Nat) (c : MConfD) (i : Nat), MEnd rs c N i → runB rs N c = some (i, (lookM rs (cfgM rs c i)).isNone, cfgM rs c i)
  | 0, c, i, h => by
    obtain rfl : i = 0 := by have := h.le; omega
    rfl
  | N + 1, c, i, h => by
    cases i with
    | zero =>
      rcases h.stop with e | e
      · omega
      · simp only [runB]
        have e' : lookM rs c = none := e
        simp [e', cfgM]
    | succ i =>
      have h0 := h.runs.no 0 (by omega)
      have h1 := h.runs.room 1 (by omega)
      cases hl : lookM rs c with
      | none => exact absurd hl h0
      | some k =>
        have hs := step_some hl
        have hr : roomM (applyM c (rs.getD k mr0)) = true := by rw [← hs]; exact h1
        have ih := runB_end rs N (stepM rs c) i ⟨h.runs.tail, by have := h.le; omega, by
          rcases h.stop with e | e
          · exact .inl (by omega)
          · exact .inr (by rw [← cfgM_shift]; exact e)⟩
        rw [hs] at ih
        simp only [runB, hl, hr, if_true, ih]
        rw [cfgM_shift, hs]
theorem runB_full (rs : List MRuleD) : ∀ (N : Nat) (c : MConfD) (i : Nat), MFull rs c N i → runB rs N c = none
  | 0, c, i, h => by have := h.le; have := h.pos; omega
  | N + 1, c, i, h => by
    have hp := h.pos
    obtain ⟨i, rfl⟩ : ∃ k, i = k + 1 := ⟨i - 1, by omega⟩
    cases i with
    | zero =>
      have h0 := h.no
      have hf := h.full
      cases hl : lookM rs c with
      | none => exact absurd hl h0
      | some k =>
        have hs := step_some hl
        have hr : roomM (applyM c (rs.getD k mr0)) = false := by rw [← hs]; exact hf
        simp only [runB, hl, hr, Bool.false_eq_true, if_false]
    | succ i =>
      have h0 := h.runs.no 0 (by omega)
      have h1 := h.runs.room 1 (by omega)
      cases hl : lookM rs c with
      | none => exact absurd hl h0
      | some k =>
        have hs := step_some hl
        have hr : roomM (applyM c (rs.getD k mr0)) = true := by rw [← hs]; exact h1
        have ih := runB_full rs N (stepM rs c) (i + 1) ⟨by omega, h.runs.tail, by have := h.le; omega, by
          show lookM rs (cfgM rs (stepM rs c) i) ≠ none
          rw [← cfgM_shift]; exact h.no, by rw [← cfgM_shift]; exact h.full⟩
        rw [hs] at ih
        simp only [runB, hl, hr, if_true, ih]
/-- The beginning on words. -/
def startT (x : List Int) : TapeD := ⟨[], trim x⟩
def startM (ws : List (List Int)) : MConfD := ⟨0, ws.map startT⟩
def dropZ : List Int → List Int
  | [] => []
  | x :: xs => if x = 0 then dropZ xs else x :: xs
/-- The word on a tape. -/
def wordT (t : TapeD) : List Int := dropZ (trim (t.l.reverse ++ t.r))
def twoT (q a b x y n : Int) : MRuleD := ⟨q, [a, b], [a, b], [x, y], n⟩
def copyR (s : Int) : MRuleD := ⟨0, [s, 0], [s, s], [1, 1], 0⟩
def copyRs (n : Nat) : List MRuleD := List.map (fun i : Nat => copyR ((i : Int) + 1)) (List.range n)
def copyRs3 : List MRuleD := [copyR 1, copyR 2]
def copier3 : MultiD := ⟨2, 3, 1, copyRs3⟩
def palRs3 : List MRuleD := [twoT 0 0 0 (-1) 0 1, copyR 1, copyR 2, twoT 1 0 0 1 (-1) 2, twoT 1 1 0 (-1) 0 1, twoT 1 2 0 (-1) 0 1, twoT 2 0 0 0 0 3, twoT 2 1 1 1 (-1) 2, twoT 2 2 2 1 (-1) 2]
def pal3 : MultiD := ⟨2, 3, 4, palRs3⟩
def swapL (xs : List Int) : List Int := [xs.getD 1 0, xs.getD 0 0]
def swapR (r : MRuleD) : MRuleD := ⟨r.st, swapL r.rd, swapL r.wr, swapL r.mv, r.nx⟩
/-- The machine of palindromes with its tapes exchanged. -/
def palRs3x : List MRuleD := [twoT 0 0 0 0 (-1) 1, swapR (copyR 1), swapR (copyR 2), twoT 1 0 0 (-1) 1 2, twoT 1 0 1 0 (-1) 1, twoT 1 0 2 0 (-1) 1, twoT 2 0 0 0 0 3, twoT 2 1 1 (-1) 1 2, twoT 2 2 2 (-1) 1 2]
def pal3x : MultiD := ⟨2, 3, 4, palRs3x⟩
def chkC (w : List Int) : Bool := match runB copyRs3 100 (startM [w, []]) with
  | some (n, true, c) => decide (n = w.length) && decide (wordT (c.tapes.getD 1 ⟨[], []⟩) = w)
  | _ => false
def chkP (w : List Int) : Bool := match runB palRs3 200 (startM [w, []]) with
  | some (n, true, c) => (decide (c.q = 3) == decide (w = w.reverse)) && (match runB palRs3x 200 (startM [[], w]) with
    | some (k, true, d) => decide (k = n) && decide (d.q = c.q)
    | _ => false)
  | _ => false
def chkW (w : List Int) : Bool := chkC w && chkP w
def wordsL : Nat → List (List Int)
  | 0 => [[]]
  | n + 1 => (wordsL n).map (fun w => 1 :: w) ++ (wordsL n).map (fun w => 2 :: w)
theorem mem_wordsL : ∀ (w : List Int), (∀ z ∈ w, z = 1 ∨ z = 2) → w ∈ wordsL w.length
  | [], _ => by simp [wordsL]
  | z :: w, h => by
    have ih := mem_wordsL w (fun y hy => h y (by simp [hy]))
    simp only [List.length_cons, wordsL, List.mem_append, List.mem_map]
    rcases h z (by simp) with rfl | rfl
    · exact .inl ⟨w, ih, rfl⟩
    · exact .inr ⟨w, ih, rfl⟩
end Go.Proofs.Ytkbpchdncljlbaa
end
