/- The order of rules with several tapes is a strict weak order.
Plain words: the run of a machine with several tapes as a function, its beginning on words, the word on a tape, the copier and the machine of palindromes with three symbols.
Contracts of the program's reversed and joined lists, and of the library's Grow of nil and Concat. Lists are short. -/
import Derived.Test.YtfghojbbofobeaaGreatQ07
import Derived.Shelf.SlSortCmp.Insertion
import Derived.Test.YtfghojbbofobeaaGreatQ06
import Derived.Lib.OwnBridge
import Derived.Lib.AppendZerosOnto
import Derived.Laws.AppendOwnNone
section
set_option linter.unusedVariables false
set_option linter.unusedSimpArgs false
namespace Go.Proofs.YtfghojbbofobeaaGreat
open Go Go.RowKit Go.Proofs
set_option maxHeartbeats 400000
theorem cmpM_swo (f : Nat → MRuleD) : Sort.SWO (ltOf fun i j : Nat => cmpM (f i) (f j)) := by
  have t1 : ∀ a b c : MRuleD, cmpM a b < 0 → cmpM b c < 0 → cmpM a c < 0 := by
    intro a b c h1 h2
    unfold cmpM at *
    by_cases e1 : a.st = b.st <;> by_cases e2 : b.st = c.st
    · rw [if_pos e1] at h1; rw [if_pos e2] at h2; rw [if_pos (e1.trans e2)]; exact cmpL_trans _ _ _ h1 h2
    · rw [if_neg e2] at h2
      rw [if_neg (fun e => e2 (e1.symm.trans e))]
      split at h2 <;> (split <;> omega)
    · rw [if_neg e1] at h1
      rw [if_neg (fun e => e1 (e.trans e2.symm))]
      split at h1 <;> (split <;> omega)
    · rw [if_neg e1] at h1; rw [if_neg e2] at h2
      split at h1 <;> split at h2 <;> first | omega | (rw [if_neg (by omega), if_pos (by omega)]; omega)
  have t2 : ∀ a b c : MRuleD, ¬ cmpM a b < 0 → ¬ cmpM b c < 0 → ¬ cmpM a c < 0 := by
    intro a b c h1 h2
    unfold cmpM at *
    by_cases e1 : a.st = b.st <;> by_cases e2 : b.st = c.st
    · rw [if_pos e1] at h1; rw [if_pos e2] at h2; rw [if_pos (e1.trans e2)]; exact cmpL_ntrans _ _ _ h1 h2
    · rw [if_neg e2] at h2
      rw [if_neg (fun e => e2 (e1.symm.trans e))]
      split at h2 <;> (split <;> omega)
    · rw [if_neg e1] at h1
      rw [if_neg (fun e => e1 (e.trans e2.symm))]
      split at h1 <;> (split <;> omega)
    · rw [if_neg e1] at h1; rw [if_neg e2] at h2
      split at h1 <;> split at h2 <;> first | omega | (rw [if_neg (by omega), if_neg (by omega)]; omega)
  refine ⟨fun x => ?_, fun x y z h1 h2 => ?_, fun x y z h1 h2 => ?_⟩
  · simp [ltOf, cmpM, cmpL_self]
  · simp only [ltOf, decide_eq_true_eq] at *
    exact t1 _ _ _ h1 h2
  · simp only [ltOf, decide_eq_false_iff_not] at *
    exact t2 _ _ _ h1 h2
end Go.Proofs.YtfghojbbofobeaaGreat
end
section
set_option linter.unusedVariables false
set_option linter.unusedSimpArgs false
namespace Go.Proofs.YtfghojbbofobeaaGreat
open Go Go.RowKit Go.Proofs
/-- At most N steps: how many, whether it halts, where; nothing without room. -/
def runB (rs : List MRuleD) : Nat → MConfD → Option (Nat × Bool × MConfD)
  | 0, c => some (0, (lookM rs c).isNone, c)
  | N + 1, c => match lookM rs c with
    | none => some (0, true, c)
    | some i => if roomM (applyM c (rs.getD i mr0)) then (match runB rs N (applyM c (rs.getD i mr0)) with | some (k, h, x) => some (k + 1, h, x) | none => none) else none
theorem cfgM_shift (rs : List MRuleD) (c : MConfD) : ∀ i, cfgM rs c (i + 1) = cfgM rs (stepM rs c) i
  | 0 => rfl
  | i + 1 => by
    show stepM rs (cfgM rs c (i + 1)) = stepM rs (cfgM rs (stepM rs c) i)
    rw [cfgM_shift rs c i]
theorem MRuns.tail {rs : List MRuleD} {c : MConfD} {i : Nat} (h : MRuns rs c (i + 1)) : MRuns rs (stepM rs c) i :=
  ⟨fun j hj => by rw [← cfgM_shift]; exact h.no (j + 1) (by omega), fun j hj => by rw [← cfgM_shift]; exact h.room (j + 1) (by omega)⟩
theorem step_some {rs : List MRuleD} {c : MConfD} {i : Nat} (h : lookM rs c = some i) : stepM rs c = applyM c (rs.getD i mr0) := by unfold stepM; rw [h]
theorem runB_end (rs : List MRuleD) : ∀ (N : Nat) (c : MConfD) (i : Nat), MEnd rs c N i → runB rs N c = some (i, (lookM rs (cfgM rs c i)).isNone, cfgM rs c i)
  | 0, c, i, h => by
    obtain rfl : i = 0 := by have := h.le; omega
    rfl
  | N + 1, c, i, h => by
    cases i with
    | zero =>
      rcases h.stop with e | e
      · omega
      · simp only [runB]
        have e' : lookM rs c = none := e
        simp [e', cfgM]
    | succ i =>
      have h0 := h.runs.no 0 (by omega)
      have h1 := h.runs.room 1 (by omega)
      cases hl : lookM rs c with
      | none => exact absurd hl h0
      | some k =>
        have hs := step_some hl
        have hr : roomM (applyM c (rs.getD k mr0)) = true := by rw [← hs]; exact h1
        have ih := runB_end rs N (stepM rs c) i ⟨h.runs.tail, by have := h.le; omega, by
          rcases h.stop with e | e
          · exact .inl (by omega)
          · exact .inr (by rw [← cfgM_shift]; exact e)⟩
        rw [hs] at ih
        simp only [runB, hl, hr, if_true, ih]
        rw [cfgM_shift, hs]
theorem runB_full (rs : List MRuleD) : ∀ (N : Nat) (c : MConfD) (i : Nat), MFull rs c N i → runB rs N c = none
  | 0, c, i, h => by have := h.le; have := h.pos; omega
  | N + 1, c, i, h => by
    have hp := h.pos
    obtain ⟨i, rfl⟩ : ∃ k, i = k + 1 := ⟨i - 1, by omega⟩
    cases i with
    | zero =>
      have h0 := h.no
      have hf := h.full
      cases hl : lookM rs c with
      | none => exact absurd hl h0
      | some k =>
        have hs := step_some hl
        have hr : roomM (applyM c (rs.getD k mr0)) = false := by rw [← hs]; exact hf
        simp only [runB, hl, hr, Bool.false_eq_true, if_false]
    | succ i =>
      have h0 := h.runs.no 0 (by omega)
      have h1 := h.runs.room 1 (by omega)
      cases hl : lookM rs c with
      | none => exact absurd hl h0
      | some k =>
        have hs := step_some hl
        have hr : roomM (applyM c (rs.getD k mr0)) = true := by rw [← hs]; exact h1
        have ih := runB_full rs N (stepM rs c) (i + 1) ⟨by omega, h.runs.tail, by have := h.le; omega, by
          show lookM rs (cfgM rs (stepM rs c) i) ≠ none
          rw [← cfgM_shift]; exact h.no, by rw [← cfgM_shift]; exact h.full⟩
        rw [hs] at ih
        simp only [runB, hl, hr, if_true, ih]
/-- The beginning on words. -/
def startT (x : List Int) : TapeD := ⟨[], trim x⟩
def startM (ws : List (List Int)) : MConfD := ⟨0, ws.map startT⟩
def dropZ : List Int → List Int
  | [] => []
  | x :: xs => if x = 0 then dropZ xs else x :: xs
/-- The word on a tape. -/
def wordT (t : TapeD) : List Int := dropZ (trim (t.l.reverse ++ t.r))
def twoT (q a b x y n : Int) : MRuleD := ⟨q, [a, b], [a, b], [x, y], n⟩
def copyR (s : Int) : MRuleD := ⟨0, [s, 0], [s, s], [1, 1], 0⟩
def copyRs (n : Nat) : List MRuleD := List.map (fun i : Nat => copyR ((i : Int) + 1)) (List.range n)
def copyRs3 : List MRuleD := [copyR 1, copyR 2]
def copier3 : MultiD := ⟨2, 3, 1, copyRs3⟩
def palRs3 : List MRuleD := [twoT 0 0 0 (-1) 0 1, copyR 1, copyR 2, twoT 1 0 0 1 (-1) 2, twoT 1 1 0 (-1) 0 1, twoT 1 2 0 (-1) 0 1, twoT 2 0 0 0 0 3, twoT 2 1 1 1 (-1) 2, twoT 2 2 2 1 (-1) 2]
def pal3 : MultiD := ⟨2, 3, 4, palRs3⟩
def swapL (xs : List Int) : List Int := [xs.getD 1 0, xs.getD 0 0]
def swapR (r : MRuleD) : MRuleD := ⟨r.st, swapL r.rd, swapL r.wr, swapL r.mv, r.nx⟩
/-- The machine of palindromes with its tapes exchanged. -/
def palRs3x : List MRuleD := [twoT 0 0 0 0 (-1) 1, swapR (copyR 1), swapR (copyR 2), twoT 1 0 0 (-1) 1 2, twoT 1 0 1 0 (-1) 1, twoT 1 0 2 0 (-1) 1, twoT 2 0 0 0 0 3, twoT 2 1 1 (-1) 1 2, twoT 2 2 2 (-1) 1 2]
def pal3x : MultiD := ⟨2, 3, 4, palRs3x⟩
def chkC (w : List Int) : Bool := match runB copyRs3 100 (startM [w, []]) with
  | some (n, true, c) => decide (n = w.length) && decide (wordT (c.tapes.getD 1 ⟨[], []⟩) = w)
  | _ => false
def chkP (w : List Int) : Bool := match runB palRs3 200 (startM [w, []]) with
  | some (n, true, c) => (decide (c.q = 3) == decide (w = w.reverse)) && (match runB palRs3x 200 (startM [[], w]) with
    | some (k, true, d) => decide (k = n) && decide (d.q = c.q)
    | _ => false)
  | _ => false
def chkW (w : List Int) : Bool := chkC w && chkP w
def wordsL : Nat → List (List Int)
  | 0 => [[]]
  | n + 1 => (wordsL n).map (fun w => 1 :: w) ++ (wordsL n).map (fun w => 2 :: w)
theorem mem_wordsL : ∀ (w : List Int), (∀ z ∈ w, z = 1 ∨ z = 2) → w ∈ wordsL w.length
  | [], _ => by simp [wordsL]
  | z :: w, h => by
    have ih := mem_wordsL w (fun y hy => h y (by simp [hy]))
    simp only [List.length_cons, wordsL, List.mem_append, List.mem_map]
    rcases h z (by simp) with rfl | rfl
    · exact .inl ⟨w, ih, rfl⟩
    · exact .inr ⟨w, ih, rfl⟩
end Go.Proofs.YtfghojbbofobeaaGreat
end
section
set_option linter.unusedSimpArgs false
set_option linter.unusedVariables false
namespace Go.Proofs.YtfghojbbofobeaaGreat
open Go Go.RowKit Go.Proofs
set_option maxHeartbeats 400000
/-- A slice that is nil, or whose address is one of a plain cell. -/
def Flat (v : Value) : Prop := v = .slice none 0 0 ∨ ∃ b off n c, v = .slice (some ⟨b, off, none⟩) n c
theorem OwnInts.flat {base : Nat} {w : World} {v : Value} {zs : List Int} (h : OwnInts base w v zs) : Flat v := by
  rcases h.2 with ⟨rfl, _⟩ | ⟨g, cap, cur, rfl, _⟩
  · exact .inl rfl
  · exact .inr ⟨g, 0, _, cap, rfl⟩
theorem grownBy_refl (w : World) (r : Option Nat) : w.grownBy w r := ⟨rfl, rfl, rfl, Nat.le_refl _, fun _ _ _ => rfl⟩
theorem CloneF_c (v : Value) (zs : List Int) (w : World) (h : Ints w v zs) (hf : Flat v) (h1 : zs.length ≤ 1048576) :
    Calls Tryz.prog 73 #[v] w fun e w' => ∃ u, e = .returned u ∧ OwnInts w.heap.size w' u zs ∧ (u = .slice none 0 0 → zs = []) ∧ Ext w w' := by
  obtain ⟨i0, hi, hz0, hz1, hz2⟩ := info_parts intInfo
  have hm : zs.length ≤ maxLen := by unfold maxLen; omega
  obtain ⟨A, c, rfl, _, _⟩ := id h.form
  rcases hf with hf | ⟨b, off, n, c', hf⟩
  · injection hf with e1 e2 e3
    subst e1 e3
    have hz : zs = [] := List.length_eq_zero_iff.1 e2
    subst hz
    refine (Tryz.slices_Clone_nil _ _ w).mono ?_
    rintro e w' ⟨rfl, rfl⟩
    exact ⟨_, rfl, ⟨by simp, .inl ⟨rfl, rfl⟩⟩, fun _ => rfl, Ext.refl _⟩
  · injection hf with e1 e2 e3
    subst e1 e3
    have hc : ∀ j u, (ivs zs)[j]? = some u → w.cell? ⟨b, off + j, none⟩ = some u := by
      intro j u hj
      obtain ⟨hl, _⟩ := List.getElem?_eq_some_iff.1 hj
      rw [ivs_length] at hl
      obtain ⟨b', off', e', hc⟩ := h.at hl
      cases e'
      exact ints_cells hc j u hj
    refine (Tryz.slices_Clone i0 _ 1 8 hi hz0 hz1 hz2 rfl (by omega) intSize b off zs.length c (ivs zs) w (by simp) hm (by omega) hc (ivs_one zs)).mono ?_
    rintro e w' ⟨u, rfl, ho, hne, hb⟩
    exact ⟨u, rfl, ho, fun e => absurd e hne, hb⟩
theorem reversed_c (v : Value) (zs : List Int) (w : World) (h : Ints w v zs) (hf : Flat v) (h1 : zs.length ≤ 1048576) :
    Calls Tryz.prog 66 #[v] w fun e w' => ∃ u, e = .returned u ∧ OwnInts w.heap.size w' u zs.reverse ∧ Ext w w' := by
  obtain ⟨A, c, rfl, _, _⟩ := id h.form
  go_enter Tryz.func66, Tryz.ntmps66
  go_wp2_with fail
  refine (CloneF_c _ zs w h hf h1).mono ?_
  rintro e w1 ⟨u, rfl, ho, hne, hx⟩
  by_cases hu : u = .slice none 0 0
  · have hz := hne hu
    subst hu
    subst hz
    go_wp2_with fail
    refine (Tryz.slices_Reverse_empty (α := Int) none 0 w1).mono ?_
    rintro e w2 ⟨rfl, rfl⟩
    go_wp2
    go_ret
    exact ⟨_, rfl, by simpa using ho, hx⟩
  · obtain ⟨g, cap, rfl, hg, hgl, _, _, _, hH⟩ := Lib.holds_of_ownsRow (enc := Value.int .i64) (zs := zs) ho hu
    go_wp2_with fail
    refine (Tryz.slices_Reverse (Value.int .i64) (fun _ => rfl) g 0 cap zs w1 hH (by omega)).mono ?_
    rintro e w2 ⟨rfl, q, rfl⟩
    go_wp2
    go_ret
    refine ⟨_, rfl, ?_, Lib.below_putRow hx hg⟩
    have := Lib.ownsRow_putRow (enc := Value.int .i64) (q := q) (ys := zs.reverse) (zs := zs) ho (by simp) (Nat.le_refl _)
    rw [List.take_of_length_le (by simp)] at this
    unfold OwnInts
    rw [List.length_reverse]
    exact this
set_option maxRecDepth 20000 in
theorem Grow0_c (n : Nat) (w : World) (hn : n ≤ 1048576) :
    Calls Tryz.prog 133 #[.slice none 0 0, .int .i64 n] w fun e w' => ∃ u, e = .returned u ∧ OwnInts w.heap.size w' u [] ∧ Ext w w' := by
  obtain ⟨i0, hi, hz0, hz1, hz2⟩ := info_parts intInfo
  by_cases h0 : n = 0
  · subst h0
    go_enter Tryz.func133, Tryz.ntmps133
    go_wp2
    go_ret
    exact ⟨_, rfl, ⟨by simp, .inl ⟨rfl, rfl⟩⟩, Ext.refl _⟩
  · have hbg : 0 < n := by omega
    have h4 : (n : Int) > 0 := by omega
    have hrz : ∀ ty, (Builtin.append_ #[46, 3] ty #[.slice none 0 0, .int .i64 n]).run Tryz.prog w =
        .ok (.slice (some ⟨w.heap.size, 0, none⟩) n (grownCap w n 0 2)) (w.drew.alloc (.cells (#[] ++ Builtin.zeroCells (Value.int .i64 0).cells n ++ Builtin.zeroCells (Value.int .i64 0).cells (grownCap w n 0 2 - n)) 2)) := fun ty => by
      have h := Lib.run_append_grow_zeros w 46 3 ty 2 i0 _ .i64 .i64 Tryz.underlying46 Tryz.underlying3 hi hz0 none 0 0 [] (run_firstCells_none w.drew i0.size 0 0 0) n hbg (by omega) (by omega) (by omega) (by rw [hz2]; omega)
        (growslice_fits (by omega) (by rw [hz2]; omega))
      simpa only [Nat.zero_add] using h
    have hGn : n ≤ grownCap w n 0 2 := grownCap_ge w _ _ _
    have hGm := grownCap_le_maxLen w n 0 2 (by unfold maxLen; omega)
    generalize grownCap w n 0 2 = G at *
    have hG63 : G ≤ 9223372036854775807 := by unfold maxLen at hGm; omega
    have HGm := Lib.hid hGm
    obtain ⟨cs, hcs⟩ : ∃ cs, cs = #[] ++ Builtin.zeroCells (Value.int .i64 0).cells n ++ Builtin.zeroCells (Value.int .i64 0).cells (G - n) := ⟨_, rfl⟩
    rw [← hcs] at hrz
    have HC : Hid (cs.size = G) := by
      unfold Hid
      rw [hcs]
      simp [Builtin.zeroCells, Value.cells]
      omega
    clear hcs hGm hi hz0 hz1 hz2
    go_enter Tryz.func133, Tryz.ntmps133
    go_wp2_with (at_builtin; refine Lib.wpList_append_run _ rfl _ _ _ _ rfl _ _ rfl rfl _ _ (hrz _) ?_)
    all_goals
      go_ret
      refine ⟨_, rfl, ⟨by simp, .inr ⟨w.heap.size, G, cs, rfl, Nat.le_refl _, heap_alloc_new w.drew _, Nat.zero_le _, HGm.out, by rw [HC.out]; omega, rfl⟩⟩, (Ext.drew w).trans (Ext.alloc _ _)⟩
end Go.Proofs.YtfghojbbofobeaaGreat
end
