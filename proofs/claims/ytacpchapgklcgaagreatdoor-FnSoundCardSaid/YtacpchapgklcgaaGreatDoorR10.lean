/- Contract of the program's list without zeros at its end.
Contracts of the program's reversed and joined lists, and of the library's Grow of nil and Concat. Lists are short.
Plain words on runs: positions of the head, the tape around it, and runs that come again moved by some cells. -/
import Derived.Test.YtacpchapgklcgaaGreatDoorR09
import Derived.Lib.OwnBridge
import Derived.Lib.AppendZerosOnto
import Derived.Laws.AppendOwnNone
import Derived.Test.YtacpchapgklcgaaGreatDoorR07
section
set_option linter.unusedSimpArgs false
set_option linter.unusedVariables false
namespace Go.Proofs.YtacpchapgklcgaaGreatDoor
open Go Go.RowKit Go.Proofs
set_option maxHeartbeats 400000
theorem OwnInts.take {base : Nat} {w : World} {A : Option Addr} {c : Nat} {zs : List Int} (h : OwnInts base w (.slice A zs.length c) zs) (k : Nat) (hk : k ≤ zs.length) (h0 : A ≠ none) : OwnInts base w (.slice A k c) (zs.take k) := by
  obtain ⟨h1, h2⟩ := h
  have hl : (zs.take k).length = k := by simp; omega
  refine ⟨by simp, ?_⟩
  rcases h2 with ⟨e, _⟩ | ⟨g, cap, cur, e, hb, hh, q1, q2, q3, q4⟩
  · injection e with e1 e2 e3
    exact absurd e1 h0
  · injection e with e1 e2 e3
    subst e1 e3
    refine .inr ⟨g, c, cur, by rw [hl], hb, hh, by omega, q2, q3, ?_⟩
    have : ivs (zs.take k) = (ivs zs).take k := by simp [ivs, List.map_take]
    rw [this, ← q4, List.take_take, hl]
    congr 1
    omega
end Go.Proofs.YtacpchapgklcgaaGreatDoor
end
section
set_option linter.unusedSimpArgs false
set_option linter.unusedVariables false
namespace Go.Proofs.YtacpchapgklcgaaGreatDoor
open Go Go.RowKit Go.Proofs
set_option maxHeartbeats 400000
/-- A slice that is nil, or whose address is one of a plain cell. -/
def Flat (v : Value) : Prop := v = .slice none 0 0 ∨ ∃ b off n c, v = .slice (some ⟨b, off, none⟩) n c
theorem OwnInts.flat {base : Nat} {w : World} {v : Value} {zs : List Int} (h : OwnInts base w v zs) : Flat v := by
  rcases h.2 with ⟨rfl, _⟩ | ⟨g, cap, cur, rfl, _⟩
  · exact .inl rfl
  · exact .inr ⟨g, 0, _, cap, rfl⟩
theorem grownBy_refl (w : World) (r : Option Nat) : w.grownBy w r := ⟨rfl, rfl, rfl, Nat.le_refl _, fun _ _ _ => rfl⟩
theorem CloneF_c (v : Value) (zs : List Int) (w : World) (h : Ints w v zs) (hf : Flat v) (h1 : zs.length ≤ 1048576) :
    Calls Tryz.prog 125 #[v] w fun e w' => ∃ u, e = .returned u ∧ OwnInts w.heap.size w' u zs ∧ (u = .slice none 0 0 → zs = []) ∧ Ext w w' := by
  obtain ⟨i0, hi, hz0, hz1, hz2⟩ := info_parts intInfo
  have hm : zs.length ≤ maxLen := by unfold maxLen; omega
  obtain ⟨A, c, rfl, _, _⟩ := id h.form
  rcases hf with hf | ⟨b, off, n, c', hf⟩
  · injection hf with e1 e2 e3
    subst e1 e3
    have hz : zs = [] := List.length_eq_zero_iff.1 e2
    subst hz
    refine (Tryz.slices_Clone_nil _ _ w).mono ?_
    rintro e w' ⟨rfl, rfl⟩
    exact ⟨_, rfl, ⟨by simp, .inl ⟨rfl, rfl⟩⟩, fun _ => rfl, Ext.refl _⟩
  · injection hf with e1 e2 e3
    subst e1 e3
    have hc : ∀ j u, (ivs zs)[j]? = some u → w.cell? ⟨b, off + j, none⟩ = some u := by
      intro j u hj
      obtain ⟨hl, _⟩ := List.getElem?_eq_some_iff.1 hj
      rw [ivs_length] at hl
      obtain ⟨b', off', e', hc⟩ := h.at hl
      cases e'
      exact ints_cells hc j u hj
    refine (Tryz.slices_Clone i0 _ 1 8 hi hz0 hz1 hz2 rfl (by omega) intSize b off zs.length c (ivs zs) w (by simp) hm (by omega) hc (ivs_one zs)).mono ?_
    rintro e w' ⟨u, rfl, ho, hne, hb⟩
    exact ⟨u, rfl, ho, fun e => absurd e hne, hb⟩
theorem reversed_c (v : Value) (zs : List Int) (w : World) (h : Ints w v zs) (hf : Flat v) (h1 : zs.length ≤ 1048576) :
    Calls Tryz.prog 115 #[v] w fun e w' => ∃ u, e = .returned u ∧ OwnInts w.heap.size w' u zs.reverse ∧ Ext w w' := by
  obtain ⟨A, c, rfl, _, _⟩ := id h.form
  go_enter Tryz.func115, Tryz.ntmps115
  go_wp2_with fail
  refine (CloneF_c _ zs w h hf h1).mono ?_
  rintro e w1 ⟨u, rfl, ho, hne, hx⟩
  by_cases hu : u = .slice none 0 0
  · have hz := hne hu
    subst hu
    subst hz
    go_wp2_with fail
    refine (Tryz.slices_Reverse_empty (α := Int) none 0 w1).mono ?_
    rintro e w2 ⟨rfl, rfl⟩
    go_wp2
    go_ret
    exact ⟨_, rfl, by simpa using ho, hx⟩
  · obtain ⟨g, cap, rfl, hg, hgl, _, _, _, hH⟩ := Lib.holds_of_ownsRow (enc := Value.int .i64) (zs := zs) ho hu
    go_wp2_with fail
    refine (Tryz.slices_Reverse (Value.int .i64) (fun _ => rfl) g 0 cap zs w1 hH (by omega)).mono ?_
    rintro e w2 ⟨rfl, q, rfl⟩
    go_wp2
    go_ret
    refine ⟨_, rfl, ?_, Lib.below_putRow hx hg⟩
    have := Lib.ownsRow_putRow (enc := Value.int .i64) (q := q) (ys := zs.reverse) (zs := zs) ho (by simp) (Nat.le_refl _)
    rw [List.take_of_length_le (by simp)] at this
    unfold OwnInts
    rw [List.length_reverse]
    exact this
set_option maxRecDepth 20000 in
theorem Grow0_c (n : Nat) (w : World) (hn : n ≤ 1048576) :
    Calls Tryz.prog 130 #[.slice none 0 0, .int .i64 n] w fun e w' => ∃ u, e = .returned u ∧ OwnInts w.heap.size w' u [] ∧ Ext w w' := by
  obtain ⟨i0, hi, hz0, hz1, hz2⟩ := info_parts intInfo
  by_cases h0 : n = 0
  · subst h0
    go_enter Tryz.func130, Tryz.ntmps130
    go_wp2
    go_ret
    exact ⟨_, rfl, ⟨by simp, .inl ⟨rfl, rfl⟩⟩, Ext.refl _⟩
  · have hbg : 0 < n := by omega
    have h4 : (n : Int) > 0 := by omega
    have hrz : ∀ ty, (Builtin.append_ #[28, 3] ty #[.slice none 0 0, .int .i64 n]).run Tryz.prog w =
        .ok (.slice (some ⟨w.heap.size, 0, none⟩) n (grownCap w n 0 2)) (w.drew.alloc (.cells (#[] ++ Builtin.zeroCells (Value.int .i64 0).cells n ++ Builtin.zeroCells (Value.int .i64 0).cells (grownCap w n 0 2 - n)) 2)) := fun ty => by
      have h := Lib.run_append_grow_zeros w 28 3 ty 2 i0 _ .i64 .i64 Tryz.underlying28 Tryz.underlying3 hi hz0 none 0 0 [] (run_firstCells_none w.drew i0.size 0 0 0) n hbg (by omega) (by omega) (by omega) (by rw [hz2]; omega)
        (growslice_fits (by omega) (by rw [hz2]; omega))
      simpa only [Nat.zero_add] using h
    have hGn : n ≤ grownCap w n 0 2 := grownCap_ge w _ _ _
    have hGm := grownCap_le_maxLen w n 0 2 (by unfold maxLen; omega)
    generalize grownCap w n 0 2 = G at *
    have hG63 : G ≤ 9223372036854775807 := by unfold maxLen at hGm; omega
    have HGm := Lib.hid hGm
    obtain ⟨cs, hcs⟩ : ∃ cs, cs = #[] ++ Builtin.zeroCells (Value.int .i64 0).cells n ++ Builtin.zeroCells (Value.int .i64 0).cells (G - n) := ⟨_, rfl⟩
    rw [← hcs] at hrz
    have HC : Hid (cs.size = G) := by
      unfold Hid
      rw [hcs]
      simp [Builtin.zeroCells, Value.cells]
      omega
    clear hcs hGm hi hz0 hz1 hz2
    go_enter Tryz.func130, Tryz.ntmps130
    go_wp2_with (at_builtin; refine Lib.wpList_append_run _ rfl _ _ _ _ rfl _ _ rfl rfl _ _ (hrz _) ?_)
    all_goals
      go_ret
      refine ⟨_, rfl, ⟨by simp, .inr ⟨w.heap.size, G, cs, rfl, Nat.le_refl _, heap_alloc_new w.drew _, Nat.zero_le _, HGm.out, by rw [HC.out]; omega, rfl⟩⟩, (Ext.drew w).trans (Ext.alloc _ _)⟩
end Go.Proofs.YtacpchapgklcgaaGreatDoor
end
section
set_option linter.unusedSimpArgs false
set_option linter.unusedVariables false
namespace Go.Proofs.YtacpchapgklcgaaGreatDoor
open Go Go.RowKit Go.Proofs
/-- The position of the head behind so many steps. -/
def posI (m : MachD) (c : ConfD) : Nat → Int
  | 0 => 0
  | t + 1 => posI m c t + (lookI m (cfgI m c t)).m
/-- The symbol of a configuration at a distance from its head. -/
def cellC (c : ConfD) (z : Int) : Int := if 0 ≤ z then c.r.getD z.toNat 0 else c.l.getD (-1 - z).toNat 0
theorem pushL_getD (s : Int) (xs : List Int) (i : Nat) : (pushL s xs).getD i 0 = (s :: xs).getD i 0 := by
  unfold pushL
  split
  · rename_i h
    obtain ⟨rfl, rfl⟩ := h
    cases i <;> simp
  · rfl
theorem drop1_getD (xs : List Int) (i : Nat) : (xs.drop 1).getD i 0 = xs.getD (i + 1) 0 := by
  simp [List.getD_eq_getElem?_getD, Nat.add_comm]
theorem cell_step {ru : RuleD} (hm : ru.m = 1 ∨ ru.m = -1) (c : ConfD) (z : Int) : cellC (stepI ru c) (z - ru.m) = if z = 0 then ru.w else cellC c z := by
  rcases hm with h | h
  · have e : stepI ru c = ⟨ru.n, pushL ru.w c.l, c.r.drop 1⟩ := by unfold stepI; rw [if_pos (by omega)]
    rw [e, h]
    unfold cellC
    simp only
    by_cases h0 : z = 0
    · subst h0
      rw [if_neg (by omega), if_pos rfl, pushL_getD]
      rfl
    · rw [if_neg h0]
      by_cases h1 : 0 ≤ z
      · rw [if_pos (show 0 ≤ z - 1 by omega), if_pos h1, drop1_getD]
        congr 1
        omega
      · rw [if_neg (show ¬ 0 ≤ z - 1 by omega), if_neg h1, pushL_getD]
        obtain ⟨k, hk⟩ : ∃ k : Nat, (-1 - (z - 1)).toNat = k + 1 := ⟨(-1 - z).toNat, by omega⟩
        rw [hk, List.getD_cons_succ]
        congr 1
        omega
  · have e : stepI ru c = ⟨ru.n, c.l.drop 1, pushL (hdD c.l) (pushL ru.w (c.r.drop 1))⟩ := by unfold stepI; rw [if_neg (by omega)]
    rw [e, h]
    unfold cellC
    simp only
    by_cases h0 : z = 0
    · subst h0
      rw [if_pos (by omega), if_pos rfl, pushL_getD]
      have : (0 - (-1 : Int)).toNat = 0 + 1 := by omega
      rw [this, List.getD_cons_succ, pushL_getD]
      rfl
    · rw [if_neg h0]
      by_cases h1 : 0 ≤ z
      · rw [if_pos (show 0 ≤ z - -1 by omega), if_pos h1, pushL_getD]
        obtain ⟨k, hk⟩ : ∃ k : Nat, z.toNat = k + 1 := ⟨z.toNat - 1, by omega⟩
        have : (z - -1).toNat = (k + 1) + 1 := by omega
        rw [this, List.getD_cons_succ, pushL_getD, List.getD_cons_succ, drop1_getD, hk]
      · rw [if_neg h1]
        by_cases h2 : z = -1
        · subst h2
          rw [if_pos (by omega), pushL_getD]
          rfl
        · rw [if_neg (show ¬ 0 ≤ z - -1 by omega), drop1_getD]
          congr 1
          omega
theorem hd_cell (c : ConfD) : hdD c.r = cellC c 0 := by simp [hdD, cellC]
theorem look_cell (m : MachD) {c e : ConfD} (hq : c.q = e.q) (hc : cellC c 0 = cellC e 0) : lookI m c = lookI m e := by
  unfold lookI
  rw [hd_cell, hd_cell, hq, hc]
theorem look_move {m : MachD} (hm : machOk m = true) {c : ConfD} (hc : IGood m c) (hn : ¬ lookI m c = noR) : (lookI m c).m = 1 ∨ (lookI m c).m = -1 := by
  obtain ⟨_, _, hall⟩ := machOk_five hm
  obtain ⟨k, hk, e⟩ := hc.idx hm
  rw [lookI_get hk e] at hn ⊢
  have hq := hall _ (List.getElem_mem hk)
  simp only [ruleOk, hn, decide_false, Bool.false_or, Bool.and_eq_true, Bool.or_eq_true, beq_iff_eq] at hq
  exact hq.1.2
/-- Two configurations agree on a set of places, seen from two heads at the same place u. -/
structure Mt (D : Int → Prop) (u : Int) (c e : ConfD) : Prop where
  q : c.q = e.q
  at_ : ∀ z, D z → cellC c (z - u) = cellC e (z - u)
theorem Mt.look {D : Int → Prop} {u : Int} {c e : ConfD} (h : Mt D u c e) (hu : D u) (m : MachD) : lookI m c = lookI m e :=
  look_cell m h.q (by have := h.at_ u hu; rwa [Int.sub_self] at this)
theorem Mt.step {D : Int → Prop} {u : Int} {c e : ConfD} (h : Mt D u c e) {ru : RuleD} (hm : ru.m = 1 ∨ ru.m = -1) : Mt D (u + ru.m) (stepI ru c) (stepI ru e) := by
  refine ⟨?_, fun z hz => ?_⟩
  · unfold stepI
    split <;> rfl
  · have e1 : z - (u + ru.m) = (z - u) - ru.m := by omega
    rw [e1, cell_step hm, cell_step hm, h.at_ z hz]
section
variable {m : MachD} (hm : machOk m = true) {c0 : ConfD} (hc0 : IGood m c0) {a b : Nat} {d : Int} {D : Int → Prop}
include hm hc0
/-- What comes again comes again for ever. -/
theorem shift_all (hb : 1 ≤ b) (hd : posI m c0 (a + b) - posI m c0 a = d) (hD : ∀ z, D z → D (z + d)) (hM : Mt D 0 (cfgI m c0 a) (cfgI m c0 (a + b)))
    (hin : ∀ i ≤ b, D (posI m c0 (a + i) - posI m c0 a)) (hno : ∀ i < a + b, ¬ lookI m (cfgI m c0 i) = noR) :
    ∀ i, (∀ j < a + i, ¬ lookI m (cfgI m c0 j) = noR) ∧ D (posI m c0 (a + i) - posI m c0 a) ∧ posI m c0 (a + b + i) - posI m c0 (a + b) = posI m c0 (a + i) - posI m c0 a ∧
      Mt D (posI m c0 (a + i) - posI m c0 a) (cfgI m c0 (a + i)) (cfgI m c0 (a + b + i)) ∧ ¬ lookI m (cfgI m c0 (a + i)) = noR := by
  intro i
  induction i using Nat.strongRecOn with
  | ind i ih =>
    have hlow : ∀ j < a + i, ¬ lookI m (cfgI m c0 j) = noR := fun j hj => by
      by_cases h : j < a
      · exact hno j (by omega)
      · have := (ih (j - a) (by omega)).2.2.2.2
        rwa [show a + (j - a) = j by omega] at this
    have hu : D (posI m c0 (a + i) - posI m c0 a) := by
      by_cases h : i ≤ b
      · exact hin i h
      · obtain ⟨_, h1, h2, _, _⟩ := ih (i - b) (by omega)
        have e : a + b + (i - b) = a + i := by omega
        rw [e] at h2
        have := hD _ h1
        rw [← h2] at this
        have e2 : posI m c0 (a + i) - posI m c0 (a + b) + d = posI m c0 (a + i) - posI m c0 a := by omega
        rwa [e2] at this
    have hmt : posI m c0 (a + b + i) - posI m c0 (a + b) = posI m c0 (a + i) - posI m c0 a ∧ Mt D (posI m c0 (a + i) - posI m c0 a) (cfgI m c0 (a + i)) (cfgI m c0 (a + b + i)) := by
      cases i with
      | zero => exact ⟨by simp, by simpa using hM⟩
      | succ i =>
        obtain ⟨_, h1, h2, h3, h4⟩ := ih i (by omega)
        have hl := h3.look h1 m
        have hmv := look_move hm (cfg_good hm hc0 (a + i) (fun j hj => hlow j (by omega))) h4
        have e1 : posI m c0 (a + (i + 1)) = posI m c0 (a + i) + (lookI m (cfgI m c0 (a + i))).m := rfl
        have e2 : posI m c0 (a + b + (i + 1)) = posI m c0 (a + b + i) + (lookI m (cfgI m c0 (a + b + i))).m := rfl
        refine ⟨by rw [e1, e2, ← hl]; omega, ?_⟩
        have e3 : cfgI m c0 (a + (i + 1)) = stepI (lookI m (cfgI m c0 (a + i))) (cfgI m c0 (a + i)) := rfl
        have e4 : cfgI m c0 (a + b + (i + 1)) = stepI (lookI m (cfgI m c0 (a + b + i))) (cfgI m c0 (a + b + i)) := rfl
        rw [e3, e4, e1, ← hl]
        have := h3.step hmv
        rwa [show posI m c0 (a + i) - posI m c0 a + (lookI m (cfgI m c0 (a + i))).m = posI m c0 (a + i) + (lookI m (cfgI m c0 (a + i))).m - posI m c0 a by omega] at this
    refine ⟨hlow, hu, hmt.1, hmt.2, ?_⟩
    by_cases h : i < b
    · exact hno (a + i) (by omega)
    · obtain ⟨_, h1, _, h3, h4⟩ := ih (i - b) (by omega)
      have hl := h3.look h1 m
      rw [show a + b + (i - b) = a + i by omega] at hl
      rwa [← hl]
theorem shift_times (hb : 1 ≤ b) (hd : posI m c0 (a + b) - posI m c0 a = d) (hD : ∀ z, D z → D (z + d)) (hM : Mt D 0 (cfgI m c0 a) (cfgI m c0 (a + b)))
    (hin : ∀ i ≤ b, D (posI m c0 (a + i) - posI m c0 a)) (hno : ∀ i < a + b, ¬ lookI m (cfgI m c0 i) = noR) (k : Nat) :
    (cfgI m c0 (a + k * b)).q = (cfgI m c0 a).q ∧ posI m c0 (a + k * b) - posI m c0 a = k * d := by
  induction k with
  | zero => simp
  | succ k ih =>
    obtain ⟨_, _, h2, h3, _⟩ := shift_all hm hc0 hb hd hD hM hin hno (k * b)
    have e : a + b + k * b = a + (k + 1) * b := by rw [Nat.succ_mul]; omega
    rw [e] at h2 h3
    refine ⟨h3.q.symm.trans ih.1, ?_⟩
    have : ((k + 1 : Nat) : Int) * d = k * d + d := by rw [Int.natCast_add, Int.add_mul]; simp
    rw [this]
    omega
end
theorem cfgI_add (m : MachD) (c : ConfD) (a : Nat) : ∀ k, cfgI m (cfgI m c a) k = cfgI m c (a + k) := by
  intro k
  induction k with
  | zero => rfl
  | succ k ih => rw [cfgI, ih]; rfl
/-- No blanks at the end. -/
def tidyL (xs : List Int) : Prop := xs = [] ∨ xs.getLastD 0 ≠ 0
theorem tidy_drop {xs : List Int} (h : tidyL xs) : tidyL (xs.drop 1) := by
  cases xs with
  | nil => exact .inl rfl
  | cons a l =>
    cases l with
    | nil => exact .inl rfl
    | cons b l =>
      right
      rcases h with h | h
      · cases h
      · simpa using h
theorem tidy_push {s : Int} {xs : List Int} (h : tidyL xs) : tidyL (pushL s xs) := by
  unfold pushL
  split
  · exact .inl rfl
  · rename_i hn
    right
    cases xs with
    | nil => simp at hn; simpa using hn
    | cons a l =>
      rcases h with h | h
      · cases h
      · simpa using h
theorem tidy_step {ru : RuleD} {c : ConfD} (h : tidyL c.l ∧ tidyL c.r) : tidyL (stepI ru c).l ∧ tidyL (stepI ru c).r := by
  unfold stepI
  split
  · exact ⟨tidy_push h.1, tidy_drop h.2⟩
  · exact ⟨tidy_drop h.1, tidy_push (tidy_push (tidy_drop h.2))⟩
theorem tidy_cfg {m : MachD} {c : ConfD} (h : tidyL c.l ∧ tidyL c.r) : ∀ n, tidyL (cfgI m c n).l ∧ tidyL (cfgI m c n).r := by
  intro n
  induction n with
  | zero => exact h
  | succ n ih => exact tidy_step ih
theorem len_cfg (m : MachD) (c : ConfD) (n : Nat) : (cfgI m c n).l.length ≤ c.l.length + n ∧ (cfgI m c n).r.length ≤ c.r.length + n + 1 := by
  induction n with
  | zero => exact ⟨by simp [cfgI], by simp [cfgI]⟩
  | succ n ih =>
    have e : cfgI m c (n + 1) = stepI (lookI m (cfgI m c n)) (cfgI m c n) := rfl
    rw [e]
    generalize lookI m (cfgI m c n) = ru
    generalize cfgI m c n = x at *
    unfold stepI
    split
    · have := pushL_len ru.w x.l
      refine ⟨by simp only; omega, by simp; omega⟩
    · have h1 := pushL_len ru.w (x.r.drop 1)
      have h2 := pushL_len (hdD x.l) (pushL ru.w (x.r.drop 1))
      simp only [List.length_drop] at h1
      refine ⟨by simp; omega, by simp only; omega⟩
end Go.Proofs.YtacpchapgklcgaaGreatDoor
end
