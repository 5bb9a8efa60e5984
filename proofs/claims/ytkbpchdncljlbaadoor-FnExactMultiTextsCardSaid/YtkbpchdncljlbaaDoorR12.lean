/- Contract of the program's reading of a configuration with several tapes.
The order of rules with several tapes is a strict weak order.
Plain words: the run of a machine with several tapes as a function, its beginning on words, the word on a tape, the copier and the machine of palindromes with three symbols. -/
import Derived.Test.YtkbpchdncljlbaaDoorR11
import Derived.Test.YtkbpchdncljlbaaDoorR08
import Derived.Shelf.SlSortCmp.Insertion
section
set_option linter.unusedVariables false
set_option linter.unusedSimpArgs false
namespace Go.Proofs.YtkbpchdncljlbaaDoor
open Go Go.RowKit Go.Proofs Go.Maps
set_option maxHeartbeats 400000
/-- Tapes in memory. -/
def Tapes (w : World) (v : Value) (ts : List TapeD) : Prop :=
  ∃ A c, v = .slice A ts.length c ∧ ts.length ≤ c ∧ c ≤ 9223372036854775807 ∧ (0 < ts.length → ∃ b off, A = some ⟨b, off, none⟩ ∧ ∀ i, (h : i < ts.length) → ∃ vl vr,
    w.cell? ⟨b, off + i * 2, none⟩ = some vl ∧ w.cell? ⟨b, off + i * 2 + 1, none⟩ = some vr ∧ Ints w vl ts[i].l ∧ Ints w vr ts[i].r)
theorem Tapes.ext {w w' : World} {v : Value} {ts : List TapeD} (h : Tapes w v ts) (he : Ext w w') : Tapes w' v ts := by
  obtain ⟨A, c, rfl, h1, h2, h3⟩ := h
  refine ⟨A, c, rfl, h1, h2, fun hn => ?_⟩
  obtain ⟨b, off, e, hc⟩ := h3 hn
  refine ⟨b, off, e, fun i hi => ?_⟩
  obtain ⟨vl, vr, c0, c1, i1, i2⟩ := hc i hi
  exact ⟨vl, vr, he.cell c0, he.cell c1, i1.ext he, i2.ext he⟩
theorem Tapes.form {w : World} {v : Value} {ts : List TapeD} (h : Tapes w v ts) : ∃ A c, v = .slice A ts.length c ∧ ts.length ≤ c ∧ c ≤ 9223372036854775807 := by
  obtain ⟨A, c, e, h1, h2, _⟩ := h
  exact ⟨A, c, e, h1, h2⟩
theorem Tapes.at {w : World} {A : Option Addr} {c : Nat} {ts : List TapeD} (h : Tapes w (.slice A ts.length c) ts) {i : Nat} (hi : i < ts.length) : ∃ b off vl vr, A = some ⟨b, off, none⟩ ∧
    w.cell? ⟨b, off + i * 2, none⟩ = some vl ∧ w.cell? ⟨b, off + i * 2 + 1, none⟩ = some vr ∧ Ints w vl ts[i].l ∧ Ints w vr ts[i].r := by
  obtain ⟨A', c', e, _, _, h3⟩ := h
  injection e with e1 _ _
  subst e1
  obtain ⟨b, off, e, hc⟩ := h3 (by omega)
  obtain ⟨vl, vr, hh⟩ := hc i hi
  exact ⟨b, off, vl, vr, e, hh⟩
/-- The cells of what is read. -/
def rdC (x : KeyM) : Array Value := #[.int .i64 x.1, .int .i64 x.2.1, .int .i64 x.2.2.1, .int .i64 x.2.2.2]
theorem rdC_put (q z : Int) (xs : List Int) (h : xs.length < 3) : (rdC (key3 q xs)).setIfInBounds (1 + xs.length) (.int .i64 z) = rdC (key3 q (xs ++ [z])) := by
  match xs, h with
  | [], _ => rfl
  | [a], _ => rfl
  | [a, b], _ => rfl
  | _ :: _ :: _ :: l, h => simp at h; omega
theorem key3_zero (q : Int) (xs : List Int) : key3 q (xs ++ [0]) = key3 q xs := by
  have key : ∀ i, (xs ++ [0]).getD i 0 = xs.getD i 0 := fun i => by
    rw [List.getD_eq_getElem?_getD, List.getD_eq_getElem?_getD]
    by_cases h : i < xs.length
    · rw [List.getElem?_append_left h]
    · rw [List.getElem?_append_right (by omega), List.getElem?_eq_none (show xs.length ≤ i by omega)]
      cases i - xs.length <;> rfl
  simp only [key3, key]
set_option maxRecDepth 20000 in
set_option maxHeartbeats 4000000 in
theorem read_c (bc : Nat) (c : MConfD) (tv : Value) (w : World) (h0 : w.cell? ⟨bc, 0, none⟩ = some (.int .i64 c.q)) (h1 : w.cell? ⟨bc, 1, none⟩ = some tv) (hT : Tapes w tv c.tapes) (hn : c.tapes.length ≤ 3) :
    Calls Tryd.prog 59 #[.pointer (some ⟨bc, 0, none⟩)] w fun e w' => e = .returned (rdE (readM c)) ∧ Ext w w' := by
  obtain ⟨A, cap, rfl, hc1, hc2⟩ := hT.form
  obtain ⟨W, hW⟩ : ∃ W, W = (w.alloc (.cells #[.int .i64 0, .int .i64 0, .int .i64 0, .int .i64 0] 96)).alloc (.cells #[.int .i64 c.q, .int .i64 0, .int .i64 0, .int .i64 0] 96) := ⟨_, rfl⟩
  have hX : Ext w W := by rw [hW]; exact (Ext.alloc _ _).trans (Ext.alloc _ _)
  obtain ⟨g, hg⟩ : ∃ g, w.heap.size = g := ⟨_, rfl⟩
  have bO : Blk W g 96 #[.int .i64 0, .int .i64 0, .int .i64 0, .int .i64 0] := by rw [hW]; exact (Blk.new _ _ _ _ hg).alloc _
  have bX : Blk W (g + 1) 96 (rdC (key3 c.q ((c.tapes.take 0).map headT))) := by rw [hW]; exact Blk.new _ _ _ _ (by simp [hg])
  have hlast : Hid ((c.tapes.take c.tapes.length).map headT = c.tapes.map headT) := by unfold Hid; rw [List.take_length]
  have HRD : Hid (readM c = key3 c.q (c.tapes.map headT)) := rfl
  rw [HRD.out]
  have hbc := World.block_lt_of_cell? w _ h0
  simp only at hbc
  rw [hg] at hbc
  have h0W := hX.cell h0
  have h1W := hX.cell h1
  go_enter Tryd.func59, Tryd.ntmps59
  go_wp2_with fail
  try rw [← hW]
  try rw [hg]
  clear hW
  go_loopw [16] (fun i wr => ∃ k : Nat, k ≤ c.tapes.length ∧ i = .int .i64 (k : Int) ∧ Ext w wr ∧ Blk wr g 96 #[.int .i64 0, .int .i64 0, .int .i64 0, .int .i64 0] ∧ Blk wr (g + 1) 96 (rdC (key3 c.q ((c.tapes.take k).map headT)))) (fun i _ => c.tapes.length - (intOf i).toNat)
  case atStart => exact ⟨0, Nat.zero_le _, rfl, hX, bO, bX⟩
  case round =>
    clear bO bX hX h0W h1W
    obtain ⟨k, hk, rfl, hx, bO, bX⟩ := hrel
    by_cases hlt : k < c.tapes.length
    · obtain ⟨b, off, vl, vr, rfl, c0, c1, i1, i2⟩ := (hT.ext hx).at hlt
      have hxl : ((c.tapes.take k).map headT).length = k := by rw [List.length_map, List.length_take]; omega
      have hnx : (c.tapes.take (k + 1)).map headT = (c.tapes.take k).map headT ++ [headT c.tapes[k]] := by rw [List.take_succ_eq_append_getElem hlt, List.map_append]; rfl
      obtain ⟨t, ht⟩ : ∃ t, c.tapes[k] = t := ⟨_, rfl⟩
      rw [ht] at i1 i2 hnx
      have HNX := Lib.hid hnx
      generalize hxs : (c.tapes.take k).map headT = xs at *
      have HXL := Lib.hid hxl
      obtain ⟨A1, k1, rfl, _, _⟩ := i1.form
      obtain ⟨A2, k2, rfl, _, _⟩ := i2.form
      obtain ⟨V, hV⟩ : ∃ V, V = wr.alloc (.cells #[.slice A1 t.l.length k1, .slice A2 t.r.length k2] 79) := ⟨_, rfl⟩
      have hXV : Ext wr V := by rw [hV]; exact Ext.alloc _ _
      have hxV := hx.trans hXV
      have bOV := bO.ext hXV
      have bXV := bX.ext hXV
      have k3 : k < 3 := by omega
      have hput := rdC_put c.q (headT t) xs (by omega)
      rw [hxl] at hput
      have f0 := bXV.frozen (1 + k)
      have hgs : g + 1 < wr.heap.size := bX.lt
      clear hnx hxs hxl ht
      by_cases hr0 : 0 < t.r.length
      · obtain ⟨ga, oa, rfl, hca⟩ := i2.at hr0
        have a0 := hXV.cell (hca 0 hr0)
        have hhd : headT t = t.r[0] := by unfold headT; rw [List.getD_eq_getElem?_getD, List.getElem?_eq_getElem hr0]; rfl
        rw [← hhd] at a0
        simp only [Nat.add_zero] at a0
        have HP : Hid (Blk ((wr.setCell ⟨g + 1, 1 + k, none⟩ (.int .i64 (headT t))).alloc (.cells #[.slice A1 t.l.length k1, .slice (some ⟨ga, oa, none⟩) t.r.length k2] 79)) (g + 1) 96 (rdC (key3 c.q ((c.tapes.take (k + 1)).map headT)))) := by
          unfold Hid
          rw [HNX.out, ← hput]
          exact (bX.set_ (1 + k) _).alloc _
        have HO : Hid (Blk ((wr.setCell ⟨g + 1, 1 + k, none⟩ (.int .i64 (headT t))).alloc (.cells #[.slice A1 t.l.length k1, .slice (some ⟨ga, oa, none⟩) t.r.length k2] 79)) g 96 #[.int .i64 0, .int .i64 0, .int .i64 0, .int .i64 0]) := Lib.hid ((bO.far (by simp) _).alloc _)
        have HE : Hid (Ext w ((wr.setCell ⟨g + 1, 1 + k, none⟩ (.int .i64 (headT t))).alloc (.cells #[.slice A1 t.l.length k1, .slice (some ⟨ga, oa, none⟩) t.r.length k2] 79))) := Lib.hid ((hx.setCell (p := ⟨g + 1, 1 + k, none⟩) (by show w.heap.size ≤ g + 1; omega) _).trans (Ext.alloc _ _))
        obtain ⟨u, hu⟩ : ∃ u, wr.cell? ⟨g + 1, 1 + k, none⟩ = some u := ⟨_, by rw [bX.cell, Array.getElem?_eq_getElem (by simp [rdC]; omega)]⟩
        have f0 := bX.frozen (1 + k)
        rw [hV] at a0
        generalize headT t = z at *
        clear bXV bX hput hhd hca i2 hV hXV hxV bOV
        go_wp2_with fail
        go_roundw
        case rel => exact ⟨k + 1, by omega, by go_num, HE.out, HO.out, HP.out⟩
        case measure => simp [intOf]; omega
      · have hz : headT t = 0 := by unfold headT; rw [List.getD_eq_getElem?_getD, List.getElem?_eq_none (by omega)]; rfl
        have HP : Hid (Blk V (g + 1) 96 (rdC (key3 c.q ((c.tapes.take (k + 1)).map headT)))) := by
          unfold Hid
          rw [HNX.out, hz, key3_zero]
          exact bXV
        rw [hV] at HP hxV bOV
        have HO := Lib.hid bOV
        have HE := Lib.hid hxV
        clear hV hz hput f0 bXV bX bOV hxV
        go_wp2
        go_roundw
        case rel => exact ⟨k + 1, by omega, by go_num, HE.out, HO.out, HP.out⟩
        case measure => simp [intOf]; omega
    · obtain rfl : k = c.tapes.length := by omega
      rw [hlast.out] at bX
      obtain ⟨y, hy⟩ : ∃ y, key3 c.q (c.tapes.map headT) = y := ⟨_, rfl⟩
      rw [hy] at bX
      have HY := Lib.hid hy
      have b0 := bX.cell 0
      have b1 := bX.cell 1
      have b2 := bX.cell 2
      have b3 := bX.cell 3
      simp only [rdC, List.getElem?_toArray, List.getElem?_cons_zero, List.getElem?_cons_succ] at b0 b1 b2 b3
      have ob := bO.cell
      have of_ := bO.frozen
      clear hy
      go_wp2
      rw [HY.out]
      exact bodyPost_ret (v := rdE y) (by simp [results, Tryd.results59, go_sem, ob, rdE]) rfl ⟨rfl, ((((hx.setCell (p := ⟨g, 0, none⟩) (by show w.heap.size ≤ g; omega) _).setCell (p := ⟨g, 1, none⟩) (by show w.heap.size ≤ g; omega) _).setCell (p := ⟨g, 2, none⟩) (by show w.heap.size ≤ g; omega) _).setCell (p := ⟨g, 3, none⟩) (by show w.heap.size ≤ g; omega) _)⟩
end Go.Proofs.YtkbpchdncljlbaaDoor
end
section
set_option linter.unusedVariables false
set_option linter.unusedSimpArgs false
namespace Go.Proofs.YtkbpchdncljlbaaDoor
open Go Go.RowKit Go.Proofs
set_option maxHeartbeats 400000
theorem cmpM_swo (f : Nat → MRuleD) : Sort.SWO (ltOf fun i j : Nat => cmpM (f i) (f j)) := by
  have t1 : ∀ a b c : MRuleD, cmpM a b < 0 → cmpM b c < 0 → cmpM a c < 0 := by
    intro a b c h1 h2
    unfold cmpM at *
    by_cases e1 : a.st = b.st <;> by_cases e2 : b.st = c.st
    · rw [if_pos e1] at h1; rw [if_pos e2] at h2; rw [if_pos (e1.trans e2)]; exact cmpL_trans _ _ _ h1 h2
    · rw [if_neg e2] at h2
      rw [if_neg (fun e => e2 (e1.symm.trans e))]
      split at h2 <;> (split <;> omega)
    · rw [if_neg e1] at h1
      rw [if_neg (fun e => e1 (e.trans e2.symm))]
      split at h1 <;> (split <;> omega)
    · rw [if_neg e1] at h1; rw [if_neg e2] at h2
      split at h1 <;> split at h2 <;> first | omega | (rw [if_neg (by omega), if_pos (by omega)]; omega)
  have t2 : ∀ a b c : MRuleD, ¬ cmpM a b < 0 → ¬ cmpM b c < 0 → ¬ cmpM a c < 0 := by
    intro a b c h1 h2
    unfold cmpM at *
    by_cases e1 : a.st = b.st <;> by_cases e2 : b.st = c.st
    · rw [if_pos e1] at h1; rw [if_pos e2] at h2; rw [if_pos (e1.trans e2)]; exact cmpL_ntrans _ _ _ h1 h2
    · rw [if_neg e2] at h2
      rw [if_neg (fun e => e2 (e1.symm.trans e))]
      split at h2 <;> (split <;> omega)
    · rw [if_neg e1] at h1
      rw [if_neg (fun e => e1 (e.trans e2.symm))]
      split at h1 <;> (split <;> omega)
    · rw [if_neg e1] at h1; rw [if_neg e2] at h2
      split at h1 <;> split at h2 <;> first | omega | (rw [if_neg (by omega), if_neg (by omega)]; omega)
  refine ⟨fun x => ?_, fun x y z h1 h2 => ?_, fun x y z h1 h2 => ?_⟩
  · simp [ltOf, cmpM, cmpL_self]
  · simp only [ltOf, decide_eq_true_eq] at *
    exact t1 _ _ _ h1 h2
  · simp only [ltOf, decide_eq_false_iff_not] at *
    exact t2 _ _ _ h1 h2
end Go.Proofs.YtkbpchdncljlbaaDoor
end
section
set_option linter.unusedVariables false
set_option linter.unusedSimpArgs false
namespace Go.Proofs.YtkbpchdncljlbaaDoor
open Go Go.RowKit Go.Proofs
/-- At most N steps: how many, whether it halts, where; nothing without room. -/
def runB (rs : List MRuleD) : Nat → MConfD → Option (Nat × Bool × MConfD)
  | 0, c => some (0, (lookM rs c).isNone, c)
  | N + 1, c => match lookM rs c with
    | none => some (0, true, c)
    | some i => if roomM (applyM c (rs.getD i mr0)) then (match runB rs N (applyM c (rs.getD i mr0)) with | some (k, h, x) => some (k + 1, h, x) | none => none) else none
theorem cfgM_shift (rs : List MRuleD) (c : MConfD) : ∀ i, cfgM rs c (i + 1) = cfgM rs (stepM rs c) i
  | 0 => rfl
  | i + 1 => by
    show stepM rs (cfgM rs c (i + 1)) = stepM rs (cfgM rs (stepM rs c) i)
    rw [cfgM_shift rs c i]
theorem MRuns.tail {rs : List MRuleD} {c : MConfD} {i : Nat} (h : MRuns rs c (i + 1)) : MRuns rs (stepM rs c) i :=
  ⟨fun j hj => by rw [← cfgM_shift]; exact h.no (j + 1) (by omega), fun j hj => by rw [← cfgM_shift]; exact h.room (j + 1) (by omega)⟩
theorem step_some {rs : List MRuleD} {c : MConfD} {i : Nat} (h : lookM rs c = some i) : stepM rs c = applyM c (rs.getD i mr0) := by unfold stepM; rw [h]
theorem runB_end (rs : List MRuleD) : ∀ (N : Nat) (c : MConfD) (i : Nat), MEnd rs c N i → runB rs N c = some (i, (lookM rs (cfgM rs c i)).isNone, cfgM rs c i)
  | 0, c, i, h => by
    obtain rfl : i = 0 := by have := h.le; omega
    rfl
  | N + 1, c, i, h => by
    cases i with
    | zero =>
      rcases h.stop with e | e
      · omega
      · simp only [runB]
        have e' : lookM rs c = none := e
        simp [e', cfgM]
    | succ i =>
      have h0 := h.runs.no 0 (by omega)
      have h1 := h.runs.room 1 (by omega)
      cases hl : lookM rs c with
      | none => exact absurd hl h0
      | some k =>
        have hs := step_some hl
        have hr : roomM (applyM c (rs.getD k mr0)) = true := by rw [← hs]; exact h1
        have ih := runB_end rs N (stepM rs c) i ⟨h.runs.tail, by have := h.le; omega, by
          rcases h.stop with e | e
          · exact .inl (by omega)
          · exact .inr (by rw [← cfgM_shift]; exact e)⟩
        rw [hs] at ih
        simp only [runB, hl, hr, if_true, ih]
        rw [cfgM_shift, hs]
theorem runB_full (rs : List MRuleD) : ∀ (N : Nat) (c : MConfD) (i : Nat), MFull rs c N i → runB rs N c = none
  | 0, c, i, h => by have := h.le; have := h.pos; omega
  | N + 1, c, i, h => by
    have hp := h.pos
    obtain ⟨i, rfl⟩ : ∃ k, i = k + 1 := ⟨i - 1, by omega⟩
    cases i with
    | zero =>
      have h0 := h.no
      have hf := h.full
      cases hl : lookM rs c with
      | none => exact absurd hl h0
      | some k =>
        have hs := step_some hl
        have hr : roomM (applyM c (rs.getD k mr0)) = false := by rw [← hs]; exact hf
        simp only [runB, hl, hr, Bool.false_eq_true, if_false]
    | succ i =>
      have h0 := h.runs.no 0 (by omega)
      have h1 := h.runs.room 1 (by omega)
      cases hl : lookM rs c with
      | none => exact absurd hl h0
      | some k =>
        have hs := step_some hl
        have hr : roomM (applyM c (rs.getD k mr0)) = true := by rw [← hs]; exact h1
        have ih := runB_full rs N (stepM rs c) (i + 1) ⟨by omega, h.runs.tail, by have := h.le; omega, by
          show lookM rs (cfgM rs (stepM rs c) i) ≠ none
          rw [← cfgM_shift]; exact h.no, by rw [← cfgM_shift]; exact h.full⟩
        rw [hs] at ih
        simp only [runB, hl, hr, if_true, ih]
/-- The beginning on words. -/
def startT (x : List Int) : TapeD := ⟨[], trim x⟩
def startM (ws : List (List Int)) : MConfD := ⟨0, ws.map startT⟩
def dropZ : List Int → List Int
  | [] => []
  | x :: xs => if x = 0 then dropZ xs else x :: xs
/-- The word on a tape. -/
def wordT (t : TapeD) : List Int := dropZ (trim (t.l.reverse ++ t.r))
def twoT (q a b x y n : Int) : MRuleD := ⟨q, [a, b], [a, b], [x, y], n⟩
def copyR (s : Int) : MRuleD := ⟨0, [s, 0], [s, s], [1, 1], 0⟩
def copyRs (n : Nat) : List MRuleD := List.map (fun i : Nat => copyR ((i : Int) + 1)) (List.range n)
def copyRs3 : List MRuleD := [copyR 1, copyR 2]
def copier3 : MultiD := ⟨2, 3, 1, copyRs3⟩
def palRs3 : List MRuleD := [twoT 0 0 0 (-1) 0 1, copyR 1, copyR 2, twoT 1 0 0 1 (-1) 2, twoT 1 1 0 (-1) 0 1, twoT 1 2 0 (-1) 0 1, twoT 2 0 0 0 0 3, twoT 2 1 1 1 (-1) 2, twoT 2 2 2 1 (-1) 2]
def pal3 : MultiD := ⟨2, 3, 4, palRs3⟩
def swapL (xs : List Int) : List Int := [xs.getD 1 0, xs.getD 0 0]
def swapR (r : MRuleD) : MRuleD := ⟨r.st, swapL r.rd, swapL r.wr, swapL r.mv, r.nx⟩
/-- The machine of palindromes with its tapes exchanged. -/
def palRs3x : List MRuleD := [twoT 0 0 0 0 (-1) 1, swapR (copyR 1), swapR (copyR 2), twoT 1 0 0 (-1) 1 2, twoT 1 0 1 0 (-1) 1, twoT 1 0 2 0 (-1) 1, twoT 2 0 0 0 0 3, twoT 2 1 1 (-1) 1 2, twoT 2 2 2 (-1) 1 2]
def pal3x : MultiD := ⟨2, 3, 4, palRs3x⟩
def chkC (w : List Int) : Bool := match runB copyRs3 100 (startM [w, []]) with
  | some (n, true, c) => decide (n = w.length) && decide (wordT (c.tapes.getD 1 ⟨[], []⟩) = w)
  | _ => false
def chkP (w : List Int) : Bool := match runB palRs3 200 (startM [w, []]) with
  | some (n, true, c) => (decide (c.q = 3) == decide (w = w.reverse)) && (match runB palRs3x 200 (startM [[], w]) with
    | some (k, true, d) => decide (k = n) && decide (d.q = c.q)
    | _ => false)
  | _ => false
def chkW (w : List Int) : Bool := chkC w && chkP w
def wordsL : Nat → List (List Int)
  | 0 => [[]]
  | n + 1 => (wordsL n).map (fun w => 1 :: w) ++ (wordsL n).map (fun w => 2 :: w)
theorem mem_wordsL : ∀ (w : List Int), (∀ z ∈ w, z = 1 ∨ z = 2) → w ∈ wordsL w.length
  | [], _ => by simp [wordsL]
  | z :: w, h => by
    have ih := mem_wordsL w (fun y hy => h y (by simp [hy]))
    simp only [List.length_cons, wordsL, List.mem_append, List.mem_map]
    rcases h z (by simp) with rfl | rfl
    · exact .inl ⟨w, ih, rfl⟩
    · exact .inr ⟨w, ih, rfl⟩
end Go.Proofs.YtkbpchdncljlbaaDoor
end
