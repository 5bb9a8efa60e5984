/- Contract of the program's list without zeros at its end.
The order of lists of numbers, and the library's comparison of two.
Plain words on machines with several tapes, as the program runs them. -/
import Derived.Test.YtapjofbjedpmgaaGreatC08
import Derived.Test.YtapjofbjedpmgaaGreatC04
import Derived.Sort.Statements
import Derived.Test.YtapjofbjedpmgaaGreatC06
section
set_option linter.unusedSimpArgs false
set_option linter.unusedVariables false
namespace Go.Proofs.YtapjofbjedpmgaaGreat
open Go Go.RowKit Go.Proofs
set_option maxHeartbeats 400000
theorem OwnInts.take {base : Nat} {w : World} {A : Option Addr} {c : Nat} {zs : List Int} (h : OwnInts base w (.slice A zs.length c) zs) (k : Nat) (hk : k ≤ zs.length) (h0 : A ≠ none) : OwnInts base w (.slice A k c) (zs.take k) := by
  obtain ⟨h1, h2⟩ := h
  have hl : (zs.take k).length = k := by simp; omega
  refine ⟨by simp, ?_⟩
  rcases h2 with ⟨e, _⟩ | ⟨g, cap, cur, e, hb, hh, q1, q2, q3, q4⟩
  · injection e with e1 e2 e3
    exact absurd e1 h0
  · injection e with e1 e2 e3
    subst e1 e3
    refine .inr ⟨g, c, cur, by rw [hl], hb, hh, by omega, q2, q3, ?_⟩
    have : ivs (zs.take k) = (ivs zs).take k := by simp [ivs, List.map_take]
    rw [this, ← q4, List.take_take, hl]
    congr 1
    omega
end Go.Proofs.YtapjofbjedpmgaaGreat
end
section
set_option linter.unusedSimpArgs false
set_option linter.unusedVariables false
set_option linter.unusedSectionVars false
set_option maxHeartbeats 4000000
namespace Go.Proofs.YtapjofbjedpmgaaGreat
open Go Go.RowKit Go.Proofs
/-- How two lists stand to one another. -/
def cmpL : List Int → List Int → Int
  | [], [] => 0
  | [], _ :: _ => -1
  | _ :: _, [] => 1
  | a :: s, b :: t => if a < b then -1 else if b < a then 1 else cmpL s t
theorem cmpL_self : ∀ xs : List Int, cmpL xs xs = 0
  | [] => rfl
  | a :: s => by
    unfold cmpL
    rw [if_neg (by omega), if_neg (by omega)]
    exact cmpL_self s
theorem cmpL_trans : ∀ xs ys zs : List Int, cmpL xs ys < 0 → cmpL ys zs < 0 → cmpL xs zs < 0
  | [], [], _, h, _ => by simp [cmpL] at h
  | [], _ :: _, [], _, h => by simp [cmpL] at h
  | [], _ :: _, _ :: _, _, _ => by simp [cmpL]
  | _ :: _, [], _, h, _ => by simp [cmpL] at h
  | _ :: _, _ :: _, [], _, h => by simp [cmpL] at h
  | a :: s, b :: t, c :: u, h1, h2 => by
    have ih := cmpL_trans s t u
    unfold cmpL at h1 h2 ⊢
    split at h1
    · split at h2
      · rw [if_pos (by omega)]; decide
      · split at h2
        · omega
        · rw [if_pos (by omega)]; decide
    · split at h1
      · omega
      · split at h2
        · rw [if_pos (by omega)]; decide
        · split at h2
          · omega
          · rw [if_neg (by omega), if_neg (by omega)]
            exact ih h1 h2
theorem cmpL_ntrans : ∀ xs ys zs : List Int, ¬ cmpL xs ys < 0 → ¬ cmpL ys zs < 0 → ¬ cmpL xs zs < 0
  | [], [], _, _, h => h
  | [], _ :: _, _, h, _ => by simp [cmpL] at h
  | _ :: _, _, [], _, _ => by simp [cmpL]
  | _ :: _, [], _ :: _, _, h => by simp [cmpL] at h
  | a :: s, b :: t, c :: u, h1, h2 => by
    have ih := cmpL_ntrans s t u
    unfold cmpL at h1 h2 ⊢
    split at h1
    · simp at h1
    · split at h2
      · simp at h2
      · rw [if_neg (by omega)]
        split
        · simp
        · rename_i n1 n2 n3
          have e1 : ¬ b < a := by omega
          have e2 : ¬ c < b := by omega
          rw [if_neg e1] at h1
          rw [if_neg e2] at h2
          exact ih h1 h2
theorem cmpL_drop {xs ys : List Int} {k : Nat} (h1 : k < xs.length) (h2 : k < ys.length) : cmpL (xs.drop k) (ys.drop k) = if xs[k] < ys[k] then -1 else if ys[k] < xs[k] then 1 else cmpL (xs.drop (k + 1)) (ys.drop (k + 1)) := by
  rw [List.drop_eq_getElem_cons h1, List.drop_eq_getElem_cons h2]
  rfl
theorem cmpL_out {xs ys : List Int} {k : Nat} (h1 : k < xs.length) (h2 : ys.length ≤ k) : cmpL (xs.drop k) (ys.drop k) = 1 := by
  rw [List.drop_eq_getElem_cons h1, List.drop_eq_nil_of_le h2]
  rfl
theorem cmpL_end {xs ys : List Int} {k : Nat} (h1 : xs.length ≤ k) : cmpL (xs.drop k) (ys.drop k) = if k < ys.length then -1 else 0 := by
  rw [List.drop_eq_nil_of_le h1]
  split
  · rename_i h
    rw [List.drop_eq_getElem_cons h]
    rfl
  · rename_i h
    rw [List.drop_eq_nil_of_le (by omega)]
    rfl
theorem isNaNI_c (x : Int) (w : World) : Calls Tryz.prog 129 #[.int .i64 x] w fun e w' => e = .returned (.bool false) ∧ w = w' := by
  go_enter Tryz.func129, Tryz.ntmps129
  go_wp2
  go_ret
  exact ⟨by simp, rfl⟩
def cmpI (x y : Int) : Int := if x < y then -1 else if y < x then 1 else 0
theorem cmpCompareI_c (x y : Int) (w : World) : Calls Tryz.prog 107 #[.int .i64 x, .int .i64 y] w fun e w' => e = .returned (.int .i64 (cmpI x y)) ∧ w = w' := by
  by_cases h1 : x < y
  · go_enter Tryz.func107, Tryz.ntmps107
    go_wp2_with (go_at_call 129; refine (isNaNI_c _ _).mono ?_; rintro e w' ⟨rfl, rfl⟩)
    go_ret
    exact ⟨by unfold cmpI; rw [if_pos (by omega)]; rfl, rfl⟩
  · by_cases h2 : y < x
    · go_enter Tryz.func107, Tryz.ntmps107
      go_wp2_with (go_at_call 129; refine (isNaNI_c _ _).mono ?_; rintro e w' ⟨rfl, rfl⟩)
      go_ret
      exact ⟨by unfold cmpI; rw [if_neg (by omega), if_pos (by omega)]; rfl, rfl⟩
    · go_enter Tryz.func107, Tryz.ntmps107
      go_wp2_with (go_at_call 129; refine (isNaNI_c _ _).mono ?_; rintro e w' ⟨rfl, rfl⟩)
      go_ret
      exact ⟨by unfold cmpI; rw [if_neg (by omega), if_neg (by omega)]; rfl, rfl⟩
theorem slicesCompare_c (w : World) (u v : Value) (xs ys : List Int) (ha : Ints w u xs) (hb : Ints w v ys) :
    Calls Tryz.prog 77 #[u, v] w fun e w' => e = .returned (.int .i64 (cmpL xs ys)) ∧ w = w' := by
  obtain ⟨A, c, rfl, g1, g2⟩ := ha.form
  obtain ⟨B, d, rfl, g3, g4⟩ := hb.form
  go_enter Tryz.func77, Tryz.ntmps77
  go_wp2
  go_loopw [11] (fun i wr => ∃ k : Nat, k ≤ xs.length ∧ k ≤ ys.length ∧ i = .int .i64 k ∧ Hid (cmpL xs ys = cmpL (xs.drop k) (ys.drop k)) ∧ w = wr) (fun i _ => xs.length - (intOf i).toNat)
  case atStart => exact ⟨0, Nat.zero_le _, Nat.zero_le _, rfl, Lib.hid rfl, rfl⟩
  case round =>
    obtain ⟨k, hk1, hk2, rfl, hq, rfl⟩ := hrel
    by_cases h1 : k < xs.length
    · obtain ⟨b, off, rfl, hc⟩ := ha.at h1
      have c0 := hc k h1
      clear hc
      by_cases h2 : k < ys.length
      · obtain ⟨b', off', rfl, hd⟩ := hb.at h2
        have d0 := hd k h2
        clear hd
        have HN := Lib.hid (cmpL_drop h1 h2)
        generalize xs[k] = x at *
        generalize ys[k] = y at *
        have hcmp := fun W => cmpCompareI_c x y W
        by_cases e1 : x < y
        · have e2 : cmpI x y = -1 := if_pos e1
          rw [e2] at hcmp
          go_wp2_with (go_at_call 107; refine (hcmp _).mono ?_; rintro e w' ⟨rfl, rfl⟩)
          go_ret
          exact ⟨by rw [hq.out, HN.out, if_pos (by omega)]; rfl, rfl⟩
        · by_cases e3 : y < x
          · have e2 : cmpI x y = 1 := by unfold cmpI; rw [if_neg (by omega), if_pos (by omega)]
            rw [e2] at hcmp
            go_wp2_with (go_at_call 107; refine (hcmp _).mono ?_; rintro e w' ⟨rfl, rfl⟩)
            go_ret
            exact ⟨by rw [hq.out, HN.out, if_neg (by omega), if_pos (by omega)]; rfl, rfl⟩
          · have e2 : cmpI x y = 0 := by unfold cmpI; rw [if_neg (by omega), if_neg (by omega)]
            rw [e2] at hcmp
            have HQ : Hid (cmpL xs ys = cmpL (xs.drop (k + 1)) (ys.drop (k + 1))) := Lib.hid (by rw [hq.out, HN.out, if_neg (by omega), if_neg (by omega)])
            go_wp2_with (go_at_call 107; refine (hcmp _).mono ?_; rintro e w' ⟨rfl, rfl⟩)
            go_roundw
            case rel => exact ⟨k + 1, by omega, by omega, by go_num, HQ, by first | rfl | trivial⟩
            case measure => simp [intOf]; omega
      · have HN := Lib.hid (cmpL_out h1 (Nat.le_of_not_lt h2))
        have i2 : (ys.length : Int) ≤ (k : Int) := by omega
        go_wp2
        go_ret
        exact ⟨by rw [hq.out, HN.out]; rfl, rfl⟩
    · have HN := Lib.hid (cmpL_end (ys := ys) (Nat.le_of_not_lt h1))
      by_cases h2 : k < ys.length
      · have i1 : (xs.length : Int) < (ys.length : Int) := by omega
        go_wp2
        go_ret
        exact ⟨by rw [hq.out, HN.out, if_pos (by omega)]; rfl, rfl⟩
      · have i1 : ¬ (xs.length : Int) < (ys.length : Int) := by omega
        go_wp2
        go_ret
        exact ⟨by rw [hq.out, HN.out, if_neg (by omega)]; rfl, rfl⟩
end Go.Proofs.YtapjofbjedpmgaaGreat
end
section
set_option linter.unusedVariables false
set_option linter.unusedSimpArgs false
namespace Go.Proofs.YtapjofbjedpmgaaGreat
open Go Go.RowKit Go.Proofs
structure MRuleD where
  st : Int
  rd : List Int
  wr : List Int
  mv : List Int
  nx : Int
deriving DecidableEq
structure MultiD where
  tp : Int
  sy : Int
  st : Int
  rules : List MRuleD
deriving DecidableEq
structure TapeD where
  l : List Int
  r : List Int
deriving DecidableEq
structure MConfD where
  q : Int
  tapes : List TapeD
deriving DecidableEq
def mr0 : MRuleD := ⟨0, [], [], [], 0⟩
def cmpM (a b : MRuleD) : Int := if a.st = b.st then cmpL a.rd b.rd else if a.st < b.st then -1 else 1
def allIn (xs : List Int) (lo hi : Int) : Bool := xs.all fun z => inB z lo hi
def mruleOk (m : MultiD) (r : MRuleD) : Bool :=
  inB r.st 0 (m.st - 1) && inB r.nx 0 (m.st - 1) && decide ((r.rd.length : Int) = m.tp) && decide ((r.wr.length : Int) = m.tp) && decide ((r.mv.length : Int) = m.tp) &&
    allIn r.rd 0 (m.sy - 1) && allIn r.wr 0 (m.sy - 1) && allIn r.mv (-1) 1
/-- A rule is valid and behind the one before it. -/
def mstepOk (m : MultiD) (k : Nat) : Bool := mruleOk m (m.rules.getD k mr0) && (decide (k = 0) || decide (cmpM (m.rules.getD (k - 1) mr0) (m.rules.getD k mr0) < 0))
def multiOk (m : MultiD) : Bool := inB m.tp 2 3 && inB m.sy 2 3 && inB m.st 1 16 && decide (m.rules.length ≤ 60) && (List.range m.rules.length).all (mstepOk m)
theorem multi_all {m : MultiD} (h : multiOk m = true) : (2 ≤ m.tp ∧ m.tp ≤ 3) ∧ (2 ≤ m.sy ∧ m.sy ≤ 3) ∧ (1 ≤ m.st ∧ m.st ≤ 16) ∧ m.rules.length ≤ 60 ∧ ∀ k, k < m.rules.length → mstepOk m k = true := by
  simp only [multiOk, Bool.and_eq_true, decide_eq_true_eq, List.all_eq_true, List.mem_range] at h
  obtain ⟨⟨⟨⟨h1, h2⟩, h3⟩, h4⟩, h5⟩ := h
  exact ⟨inB_iff.1 h1, inB_iff.1 h2, inB_iff.1 h3, h4, h5⟩
theorem mrule_all {m : MultiD} {r : MRuleD} (h : mruleOk m r = true) : (0 ≤ r.st ∧ r.st ≤ m.st - 1) ∧ (0 ≤ r.nx ∧ r.nx ≤ m.st - 1) ∧ (r.rd.length : Int) = m.tp ∧ (r.wr.length : Int) = m.tp ∧ (r.mv.length : Int) = m.tp ∧
    (∀ z ∈ r.rd, 0 ≤ z ∧ z ≤ m.sy - 1) ∧ (∀ z ∈ r.wr, 0 ≤ z ∧ z ≤ m.sy - 1) ∧ (∀ z ∈ r.mv, -1 ≤ z ∧ z ≤ 1) := by
  simp only [mruleOk, allIn, Bool.and_eq_true, decide_eq_true_eq, List.all_eq_true] at h
  obtain ⟨⟨⟨⟨⟨⟨⟨h1, h2⟩, h3⟩, h4⟩, h5⟩, h6⟩, h7⟩, h8⟩ := h
  exact ⟨inB_iff.1 h1, inB_iff.1 h2, h3, h4, h5, fun z hz => inB_iff.1 (h6 z hz), fun z hz => inB_iff.1 (h7 z hz), fun z hz => inB_iff.1 (h8 z hz)⟩
/-- A state and three symbols, the first ones of a list. -/
abbrev KeyM := Int × Int × Int × Int
def key3 (q : Int) (xs : List Int) : KeyM := (q, xs.getD 0 0, xs.getD 1 0, xs.getD 2 0)
def headT (t : TapeD) : Int := t.r.getD 0 0
def readM (c : MConfD) : KeyM := key3 c.q (c.tapes.map headT)
/-- The index of the last rule among the first k that has a key. -/
def findM (rs : List MRuleD) (x : KeyM) : Nat → Option Nat
  | 0 => none
  | k + 1 => if key3 (rs.getD k mr0).st (rs.getD k mr0).rd = x then some k else findM rs x k
def lookM (rs : List MRuleD) (c : MConfD) : Option Nat := findM rs (readM c) rs.length
def writeR (t : TapeD) (s : Int) : List Int := s :: t.r.drop 1
def writeT (t : TapeD) (s mv : Int) : TapeD :=
  if mv = 1 then ⟨trim (s :: t.l), trim (t.r.drop 1)⟩
  else if mv = -1 then ⟨trim (t.l.drop 1), trim (t.l.getD 0 0 :: writeR t s)⟩
  else ⟨trim t.l, trim (writeR t s)⟩
def writeAll : List TapeD → List Int → List Int → List TapeD
  | t :: ts, ws, ms => writeT t (ws.getD 0 0) (ms.getD 0 0) :: writeAll ts (ws.drop 1) (ms.drop 1)
  | [], _, _ => []
theorem writeAll_length : ∀ (ts : List TapeD) (ws ms : List Int), (writeAll ts ws ms).length = ts.length
  | [], _, _ => rfl
  | _ :: ts, ws, ms => by simp [writeAll, writeAll_length ts]
theorem writeAll_get : ∀ (ts : List TapeD) (ws ms : List Int) (k : Nat) (h : k < ts.length), (writeAll ts ws ms)[k]'(by rw [writeAll_length]; exact h) = writeT ts[k] (ws.getD k 0) (ms.getD k 0)
  | t :: ts, ws, ms, 0, _ => rfl
  | t :: ts, ws, ms, k + 1, h => by
    have := writeAll_get ts (ws.drop 1) (ms.drop 1) k (by simpa using h)
    simp only [writeAll, List.getElem_cons_succ, this]
    simp [List.getD_eq_getElem?_getD, List.getElem?_drop, Nat.add_comm]
def applyM (c : MConfD) (r : MRuleD) : MConfD := ⟨r.nx, writeAll c.tapes r.wr r.mv⟩
def roomT (t : TapeD) : Bool := decide (t.l.length ≤ 200) && decide (t.r.length ≤ 200)
def roomM (c : MConfD) : Bool := c.tapes.all roomT
def stepM (rs : List MRuleD) (c : MConfD) : MConfD := match lookM rs c with | none => c | some i => applyM c (rs.getD i mr0)
def cfgM (rs : List MRuleD) (c : MConfD) : Nat → MConfD
  | 0 => c
  | n + 1 => stepM rs (cfgM rs c n)
/-- The run makes i steps, with room. -/
structure MRuns (rs : List MRuleD) (c : MConfD) (i : Nat) : Prop where
  no : ∀ j, j < i → lookM rs (cfgM rs c j) ≠ none
  room : ∀ j, j ≤ i → roomM (cfgM rs c j) = true
/-- The run ends behind i steps. -/
structure MEnd (rs : List MRuleD) (c : MConfD) (N i : Nat) : Prop where
  runs : MRuns rs c i
  le : i ≤ N
  stop : i = N ∨ lookM rs (cfgM rs c i) = none
theorem MRuns.zero {rs : List MRuleD} {c : MConfD} (h : roomM c = true) : MRuns rs c 0 := ⟨fun j hj => by omega, fun j hj => by have e : j = 0 := (by omega); subst e; exact h⟩
theorem MRuns.succ {rs : List MRuleD} {c : MConfD} {i : Nat} (h : MRuns rs c i) (h1 : lookM rs (cfgM rs c i) ≠ none) (h2 : roomM (cfgM rs c (i + 1)) = true) : MRuns rs c (i + 1) :=
  ⟨fun j hj => by
    by_cases e : j = i
    · rw [e]; exact h1
    · exact h.no j (by omega), fun j hj => by
    by_cases e : j = i + 1
    · rw [e]; exact h2
    · exact h.room j (by omega)⟩
end Go.Proofs.YtapjofbjedpmgaaGreat
end
