/- Contracts of the program's runner of a machine: what it looks at. The machine is valid and the configuration is one of its.
Contracts of the program's runner of a machine: the rule it looks at, and whether it halts. The machine is valid and the configuration is one of its.
Contract: the rule of a context and the window that a step loses. -/
import Derived.Test.YtapjofbjedpmgaaGreatC11
import Derived.Test.YtapjofbjedpmgaaGreatC05
import Derived.Test.YtapjofbjedpmgaaGreatC10
import Derived.Maps.AppendAt
import Derived.Deep.RegionLaw
import Derived.Deep.RegionHeld3
import Derived.Test.YtapjofbjedpmgaaGreatC18
import Derived.Test.YtapjofbjedpmgaaGreatC06
section
set_option linter.unusedSimpArgs false
set_option linter.unusedVariables false
namespace Go.Proofs.YtapjofbjedpmgaaGreat
open Go Go.RowKit Go.Proofs
set_option maxHeartbeats 400000
theorem hdD_rev (xs : List Int) (h : xs.length ≠ 0) : xs.reverse[xs.reverse.length - 1]? = some (hdD xs) := by
  cases xs with
  | nil => simp at h
  | cons a l =>
    simp [hdD]
theorem nearest_c (v : Value) (xs : List Int) (w : World) (h : Ints w v xs.reverse) (hn : xs.length ≤ 1048576) :
    Calls Tryz.prog 82 #[v] w fun e w' => e = .returned (.int .i64 (hdD xs)) ∧ w = w' := by
  have hl : xs.reverse.length = xs.length := List.length_reverse
  have hr := hdD_rev xs
  generalize xs.reverse = ys at *
  obtain ⟨A, c, rfl, h2, h2'⟩ := h.form
  by_cases h0 : xs.length = 0
  · have hz : xs = [] := List.length_eq_zero_iff.1 h0
    have HE : Hid (hdD xs = 0) := by unfold Hid; rw [hz]; rfl
    have hy0 : ys.length = 0 := by omega
    have hy : ys = [] := List.length_eq_zero_iff.1 hy0
    subst hy
    go_enter Tryz.func82, Tryz.ntmps82
    go_wp2
    go_ret
    exact ⟨by rw [HE.out]; rfl, rfl⟩
  · have hlt : ys.length - 1 < ys.length := by omega
    obtain ⟨b, off, rfl, hc⟩ := h.at hlt
    have c0 := hc (ys.length - 1) hlt
    have HE : Hid (hdD xs = ys[ys.length - 1]) := by
      have := hr h0
      rw [List.getElem?_eq_getElem hlt] at this
      injection this with this
      exact this.symm
    generalize ys[ys.length - 1] = z at *
    have hb : ((ys.length : Int) == 0) = false := by rw [beq_eq_false_iff_ne]; omega
    have i1 : (0 : Int) ≤ (ys.length : Int) - 1 := by omega
    have i2 : ((ys.length : Int) - 1) < (ys.length : Int) := by omega
    have i3 : ((ys.length : Int) - 1).toNat = ys.length - 1 := by omega
    clear hc hr hl h
    go_enter Tryz.func82, Tryz.ntmps82
    go_wp2
    go_ret
    exact ⟨by rw [HE.out]; rfl, rfl⟩
theorem rev_drop1 (xs : List Int) : (xs.drop 1).reverse = xs.reverse.take (xs.length - 1) := by
  cases xs with
  | nil => rfl
  | cons a l => simp
theorem pop_c (base : Nat) (v : Value) (xs : List Int) (w : World) (h : OwnInts base w v xs.reverse) (hn : xs.length ≤ 1048576) :
    Calls Tryz.prog 80 #[v] w fun e w' => (∃ u, e = .returned u ∧ OwnInts base w u (xs.drop 1).reverse ∧ u.ownBlock = v.ownBlock) ∧ w = w' := by
  rw [rev_drop1]
  have hl : xs.reverse.length = xs.length := List.length_reverse
  generalize xs.reverse = ys at *
  obtain ⟨A, c, rfl, h2, h2'⟩ := h.ints.form
  by_cases h0 : xs.length = 0
  · have hy0 : ys.length = 0 := by omega
    have hy : ys = [] := List.length_eq_zero_iff.1 hy0
    subst hy
    have hE : Hid (([] : List Int).take (xs.length - 1) = []) := by unfold Hid; simp
    rw [hE.out]
    clear hl h0
    go_enter Tryz.func80, Tryz.ntmps80
    go_wp2
    go_ret
    exact ⟨⟨_, rfl, h, rfl⟩, rfl⟩
  · have hne : 0 < ys.length := by omega
    obtain ⟨g, rfl, _, _⟩ := own_at h hne
    rw [show xs.length - 1 = ys.length - 1 by omega]
    have ht := OwnInts.take h (ys.length - 1) (by omega) (by simp)
    have i1 : (0 : Int) ≤ (ys.length : Int) - 1 := by omega
    have i3 : ((ys.length : Int) - 1).toNat = ys.length - 1 := by omega
    have i4 : ys.length - 1 ≤ c := by omega
    have i5 : (ys.length : Int) - 1 ≤ (c : Int) := by omega
    have i6 : max (0 : Int) ((ys.length : Int) - 1) = (ys.length : Int) - 1 := by omega
    have i7 : (1 : Int) ≤ (ys.length : Int) := by omega
    have HT := Lib.hid ht
    clear hl h0 ht
    go_enter Tryz.func80, Tryz.ntmps80
    go_wp2
    go_ret
    exact ⟨⟨_, rfl, HT.out, rfl⟩, rfl⟩
theorem rev_push (s : Int) (xs : List Int) (h : ¬ (s = 0 ∧ xs = [])) : (pushL s xs).reverse = xs.reverse ++ [s] := by
  unfold pushL
  rw [if_neg h, List.reverse_cons]
/-- Only the block of a slice, and new ones, are touched. -/
structure Pushed (w w' : World) (v u : Value) : Prop where
  os : w'.os = w.os
  tape : w'.tape = w.tape
  output : w'.output = w.output
  size : w.heap.size ≤ w'.heap.size
  same : ∀ k, k < w.heap.size → v.ownBlock ≠ some k → w'.heap[k]? = w.heap[k]?
  new : ∀ g, u.ownBlock = some g → v.ownBlock = some g ∨ w.heap.size ≤ g
theorem push_c (base : Nat) (s : Int) (v : Value) (xs : List Int) (w : World) (h : OwnInts base w v xs.reverse) (hb : base ≤ w.heap.size) (hn : xs.length ≤ 1000000) :
    Calls Tryz.prog 81 #[v, .int .i64 s] w fun e w' => ∃ u, e = .returned u ∧ OwnInts base w' u (pushL s xs).reverse ∧ Pushed w w' v u := by
  have hl : xs.reverse.length = xs.length := List.length_reverse
  obtain ⟨i0, hi, hz0, hz1, hz2⟩ := info_parts intInfo
  by_cases h0 : s = 0 ∧ xs = []
  · obtain ⟨rfl, rfl⟩ := h0
    have e : pushL 0 [] = [] := rfl
    rw [e]
    obtain ⟨A, c, rfl, h2, h2'⟩ := h.ints.form
    go_enter Tryz.func81, Tryz.ntmps81
    go_wp2
    go_ret
    exact ⟨_, rfl, h, ⟨rfl, rfl, rfl, Nat.le_refl _, fun _ _ _ => rfl, fun g hg => .inl hg⟩⟩
  · have HP := Lib.hid (rev_push s xs h0)
    have htest : s = 0 → xs.reverse.length ≠ 0 := fun hs hx => h0 ⟨hs, List.length_eq_zero_iff.1 (by omega)⟩
    rw [HP.out]
    generalize xs.reverse = ys at *
    obtain ⟨A, c, rfl, h2, h2'⟩ := h.ints.form
    have ho : w.ownsRow base 2 1 (.slice A ys.length c) ys.length (ivs ys) := h
    have ho' := ho.alloc (.cells #[.int .i64 s] 2)
    have hyl : ys.length ≤ 1000000 := by omega
    have key : Calls Tryz.prog 81 #[.slice A ys.length c, .int .i64 s] w fun e w' => ∃ u, e = .returned u ∧ OwnInts base w' u (ys ++ [s]) ∧ Pushed w w' (.slice A ys.length c) u := by
      by_cases hs : s = 0
      · have hb0 : (s == 0) = true := by simp [hs]
        have hb1 : ((ys.length : Int) == 0) = false := by rw [beq_eq_false_iff_ne]; have := htest hs; omega
        clear hs htest h0 hl HP
        go_enter Tryz.func81, Tryz.ntmps81
        go_wp2_with (at_builtin; refine wpList_append_own_at _ rfl _ _ 27 rfl base 2 i0 (.int .i64 0) 1 8 Tryz.underlying27 hi hz0 hz1 hz2 rfl (by decide) _ _ _ rfl ho' ⟨w.heap.size, 0, none⟩ 1 1 [.int .i64 s] rfl rfl (cell_one_new _ _ _) ?c2 ?c3 ?c4 ?c5 ?_)
        case c2 => intro u hu; simp at hu; subst hu; rfl
        case c3 => unfold maxLen; omega
        case c4 => omega
        case c5 => simp; omega
        intro v' w4 hown4 hg4 _ hat4
        obtain ⟨A', c', rfl, _, _, _⟩ := (ownsRow_row hown4).form
        go_wp2
        go_ret
        have hpu : Pushed w w4 (.slice A ys.length c) (.slice A' (ys.length + 1) c') := ⟨hg4.os, hg4.tape, hg4.output, by have := hg4.size; simp at this; omega, fun k hk hne => (hg4.block k (by simp; omega) (fun e => hne e.symm)).trans (Below.heap_alloc _ _ _ hk), fun g hg => by rcases hat4 with e | e <;> rw [hg] at e <;> first | exact .inl e.symm | (injection e with e; exact .inr (by rw [e]; simp))⟩
        exact ⟨_, rfl, by simpa [OwnInts, ivs_append, ivs] using hown4, hpu⟩
      · have hb0 : (s == 0) = false := by simp [hs]
        clear hs htest h0 hl HP
        go_enter Tryz.func81, Tryz.ntmps81
        go_wp2_with (at_builtin; refine wpList_append_own_at _ rfl _ _ 27 rfl base 2 i0 (.int .i64 0) 1 8 Tryz.underlying27 hi hz0 hz1 hz2 rfl (by decide) _ _ _ rfl ho' ⟨w.heap.size, 0, none⟩ 1 1 [.int .i64 s] rfl rfl (cell_one_new _ _ _) ?c2 ?c3 ?c4 ?c5 ?_)
        case c2 => intro u hu; simp at hu; subst hu; rfl
        case c3 => unfold maxLen; omega
        case c4 => omega
        case c5 => simp; omega
        intro v' w4 hown4 hg4 _ hat4
        obtain ⟨A', c', rfl, _, _, _⟩ := (ownsRow_row hown4).form
        go_wp2
        go_ret
        have hpu : Pushed w w4 (.slice A ys.length c) (.slice A' (ys.length + 1) c') := ⟨hg4.os, hg4.tape, hg4.output, by have := hg4.size; simp at this; omega, fun k hk hne => (hg4.block k (by simp; omega) (fun e => hne e.symm)).trans (Below.heap_alloc _ _ _ hk), fun g hg => by rcases hat4 with e | e <;> rw [hg] at e <;> first | exact .inl e.symm | (injection e with e; exact .inr (by rw [e]; simp))⟩
        exact ⟨_, rfl, by simpa [OwnInts, ivs_append, ivs] using hown4, hpu⟩
    exact key
end Go.Proofs.YtapjofbjedpmgaaGreat
end
section
set_option linter.unusedSimpArgs false
set_option linter.unusedVariables false
namespace Go.Proofs.YtapjofbjedpmgaaGreat
open Go Go.RowKit Go.Proofs
set_option maxHeartbeats 400000
/-- A runner, in memory; w0: the world where it began. -/
structure RunAt (w0 w : World) (b : Nat) (m : MachD) (c : ConfD) (mv lv rv : Value) : Prop where
  blk : Blk w b 119 #[.int .i64 m.sy, .int .i64 m.st, mv, .int .i64 c.q, lv, rv]
  rules0 : Rules w0 mv m.rules
  ext0 : Ext w0 w
  l : OwnInts w0.heap.size w lv c.l.reverse
  r : OwnInts w0.heap.size w rv c.r.reverse
  ap : ∀ g, lv.ownBlock = some g → rv.ownBlock ≠ some g
  low : w0.heap.size ≤ b
theorem RunAt.ext {w0 w w' : World} {b : Nat} {m : MachD} {c : ConfD} {mv lv rv : Value} (h : RunAt w0 w b m c mv lv rv) (he : Ext w w') : RunAt w0 w' b m c mv lv rv :=
  ⟨h.blk.ext he, h.rules0, h.ext0.trans he, h.l.ext he, h.r.ext he, h.ap, h.low⟩
theorem RunAt.rules {w0 w : World} {b : Nat} {m : MachD} {c : ConfD} {mv lv rv : Value} (h : RunAt w0 w b m c mv lv rv) : Rules w mv m.rules := h.rules0.ext h.ext0
theorem symbol_c (w0 w : World) (b : Nat) (m : MachD) (c : ConfD) (mv lv rv : Value) (h : RunAt w0 w b m c mv lv rv) (hn : c.r.length ≤ 1000) :
    Calls Tryz.prog 130 #[.pointer (some ⟨b, 0, none⟩)] w fun e w' => e = .returned (.int .i64 (hdD c.r)) ∧ w = w' := by
  have c5 := h.blk.cell 5
  simp only [List.getElem?_toArray, List.getElem?_cons_zero, List.getElem?_cons_succ] at c5
  have hr := h.r.ints
  go_enter Tryz.func130, Tryz.ntmps130
  go_wp2_with fail
  refine (nearest_c _ c.r w hr (by omega)).mono ?_
  rintro e w' ⟨rfl, rfl⟩
  go_wp2
  go_ret
  exact ⟨rfl, rfl⟩
theorem at_c (w0 w : World) (b : Nat) (m : MachD) (c : ConfD) (mv lv rv : Value) (k : Nat) (h : RunAt w0 w b m c mv lv rv) (hn : c.r.length ≤ 1000) (hm : machOk m = true) (hg : IGood m c) (hk : c.q * m.sy + hdD c.r = (k : Int)) (hkl : k < m.rules.length) :
    Calls Tryz.prog 109 #[.pointer (some ⟨b, 0, none⟩)] w fun e w' => e = .returned (.int .i64 k) ∧ Ext w w' := by
  obtain ⟨⟨s1, s2, s3, s4⟩, hl, _⟩ := machOk_five hm
  have c0 := h.blk.cell 0
  have c3 := h.blk.cell 3
  simp only [List.getElem?_toArray, List.getElem?_cons_zero, List.getElem?_cons_succ] at c0 c3
  have d0 := cellR c0
  have d3 := cellR c3
  have hS := fun d os => symbol_c w0 _ b m c mv lv rv (h.ext (below_regrown w d os)) hn
  have hh := hdD_of hg.r (by omega)
  have q0 := hg.q0
  have q1 := hg.q1
  have hlen : m.rules.length ≤ 6000 := by have := (mul_bounds s1 s2 s3 s4).2; omega
  generalize hdD c.r = z at *
  have hp0 : 0 ≤ c.q * m.sy := Int.mul_nonneg q0 (by omega)
  have hp1 : c.q * m.sy ≤ 6000 := by omega
  have hw1 : IntKind.i64.wrap (c.q * m.sy) = c.q * m.sy := IntWalk.i64_in _ (by omega)
  have hw2 : IntKind.i64.wrap (c.q * m.sy + z) = (k : Int) := by rw [IntWalk.i64_in _ (by omega), hk]
  have hw3 : IntKind.i64.wrap (k : Int) = (k : Int) := IntWalk.i64_in _ (by omega)
  clear hl
  go_enter Tryz.func109, Tryz.ntmps109
  go_wp2
  refine wp_region_ext (by kernel_rfl) (by kernel_rfl) ?_
  repeat (go_big_quiet_step ((go_at_call 130; exact Calls.sameR (hS _ _))))
  refine wpQuiet_nil ?_
  intro w2 hx2
  go_wp2
  go_ret
  exact ⟨rfl, hx2⟩
theorem rule_c (w0 w : World) (b : Nat) (m : MachD) (c : ConfD) (mv lv rv : Value) (h : RunAt w0 w b m c mv lv rv) (hn : c.r.length ≤ 1000) (hm : machOk m = true) (hg : IGood m c) :
    Calls Tryz.prog 79 #[.pointer (some ⟨b, 0, none⟩)] w fun e w' => e = .returned (.agg #[.int .i64 (lookI m c).w, .int .i64 (lookI m c).m, .int .i64 (lookI m c).n]) ∧ Ext w w' := by
  obtain ⟨k, hkl, hk⟩ := hg.idx hm
  rw [lookI_get hkl hk]
  have hru := h.rules
  obtain ⟨A, cap, rfl, _, _⟩ := hru.form
  obtain ⟨b', off, rfl, hc⟩ := hru.at hkl
  obtain ⟨r0, r1, r2⟩ := hc k hkl
  obtain ⟨W, hW⟩ : ∃ W, W = w.alloc (.cells #[.int .i64 0, .int .i64 0, .int .i64 0] 65) := ⟨_, rfl⟩
  have hXW : Ext w W := by rw [hW]; exact Ext.alloc _ _
  have bZ : Blk W w.heap.size 65 #[.int .i64 0, .int .i64 0, .int .i64 0] := by rw [hW]; exact Blk.new _ _ _ _ rfl
  have h1 := h.ext hXW
  have c2 := h1.blk.cell 2
  simp only [List.getElem?_toArray, List.getElem?_cons_zero, List.getElem?_cons_succ] at c2
  have q2 := h.blk.cell 2
  simp only [List.getElem?_toArray, List.getElem?_cons_zero, List.getElem?_cons_succ] at q2
  have e0 := hXW.cell r0
  have e1 := hXW.cell r1
  have e2 := hXW.cell r2
  have hA := fun d os => at_c w0 _ b m c _ lv rv k (h1.ext (below_regrown W d os)) hn hm hg hk hkl
  have i1 : (0 : Int) ≤ (k : Int) := by omega
  have i2 : (k : Int) < (m.rules.length : Int) := by omega
  clear hc
  generalize m.rules[k] = ru at *
  go_enter Tryz.func79, Tryz.ntmps79
  go_wp2_with fail
  rw [← hW]
  clear hW
  have hA1 := at_c w0 W.drew b m c _ lv rv k (h1.ext (Ext.drew W)) hn hm hg hk hkl
  go_region_held3 (fun w' => w'.cell? ⟨b, 2, none⟩ = some (.slice (some ⟨b', off, none⟩) m.rules.length cap) ∧ w'.cell? ⟨b', off + k * 3, none⟩ = some (.int .i64 ru.w) ∧ w'.cell? ⟨b', off + k * 3 + 1, none⟩ = some (.int .i64 ru.m) ∧ w'.cell? ⟨b', off + k * 3 + 2, none⟩ = some (.int .i64 ru.n))
    (first | go_keep | exact ⟨hx2.cell c2, hx2.cell e0, hx2.cell e1, hx2.cell e2⟩ | exact ⟨(hS _ _ _).cell q2, (hS _ _ _).cell r0, (hS _ _ _).cell r1, (hS _ _ _).cell r2⟩)
    (first
      | (go_at_call 109; ((with_reducible refine hA1.mono ?_)); rintro e w2 ⟨rfl, hx2'⟩; have hx2 := (Ext.drew W).trans hx2'; have z0 := (bZ.ext hx2).cell; have z1 := (bZ.ext hx2).frozen; have hS := fun x y z => (((hXW.trans hx2).setCell (p := ⟨w.heap.size, 0, none⟩) (Nat.le_refl _) x).setCell (p := ⟨w.heap.size, 1, none⟩) (Nat.le_refl _) y).setCell (p := ⟨w.heap.size, 2, none⟩) (Nat.le_refl _) z))
  all_goals
    clear hS e0 e1 e2 c2 q2 r0 r1 r2
    go_wp2
    refine bodyPost_ret (v := .agg #[.int .i64 ru.w, .int .i64 ru.m, .int .i64 ru.n]) (by simp [results, Tryz.results79, go_sem, z0]) rfl ⟨rfl, ?_⟩
    exact (((hXW.trans hx2).setCell (p := ⟨w.heap.size, 0, none⟩) (Nat.le_refl _) _).setCell (p := ⟨w.heap.size, 1, none⟩) (Nat.le_refl _) _).setCell (p := ⟨w.heap.size, 2, none⟩) (Nat.le_refl _) _
theorem halts_c (w0 w : World) (b : Nat) (m : MachD) (c : ConfD) (mv lv rv : Value) (h : RunAt w0 w b m c mv lv rv) (hn : c.r.length ≤ 1000) (hm : machOk m = true) (hg : IGood m c) :
    Calls Tryz.prog 41 #[.pointer (some ⟨b, 0, none⟩)] w fun e w' => e = .returned (.bool (decide (lookI m c = noR))) ∧ Ext w w' := by
  have hR := rule_c w0 w b m c mv lv rv h hn hm hg
  have HE : Hid ((!isR (lookI m c)) = decide (lookI m c = noR)) := by unfold Hid isR; simp [rEq]
  obtain ⟨ru, hru⟩ : ∃ ru, ru = lookI m c := ⟨_, rfl⟩
  rw [← hru] at hR HE ⊢
  clear hru
  obtain ⟨r0, r1, r2⟩ := ru
  go_enter Tryz.func41, Tryz.ntmps41
  go_wp2_with fail
  refine hR.mono ?_
  rintro e w1 ⟨rfl, hx1⟩
  go_wp2_with fail
  refine (isRule_c r0 r1 r2 _).mono ?_
  rintro e w2 ⟨rfl, hx2⟩
  generalize isR ⟨r0, r1, r2⟩ = x at *
  go_wp2
  go_ret
  exact ⟨by rw [← HE.out]; rfl, hx1.trans hx2⟩
end Go.Proofs.YtapjofbjedpmgaaGreat
end
section
set_option linter.unusedSimpArgs false
set_option linter.unusedVariables false
namespace Go.Proofs.YtapjofbjedpmgaaGreat
open Go Go.RowKit Go.Proofs
set_option maxHeartbeats 400000
/-- The rule of a context. -/
def ruleX (m : MachD) (q : Int) (xs : List Int) : RuleD := m.rules.getD (q * m.sy + xs.getD (xs.length / 2) 0).toNat noR
/-- The window that is lost. -/
def lostX (r : RuleD) (xs : List Int) : List Int := if r.m = 1 then xs.take (xs.length / 2) else xs.drop (xs.length / 2 + 1)
def LostRes (w : World) (r : RuleD) (xs : List Int) (e : Ending) (w' : World) : Prop :=
  Ext w w' ∧ ∃ u, e = .returned (.tuple #[.agg #[.int .i64 r.w, .int .i64 r.m, .int .i64 r.n], u, .bool (isR r)]) ∧ (isR r = true → OwnInts w.heap.size w' u (lostX r xs)) ∧ (isR r = false → u = .slice none 0 0)
set_option maxRecDepth 20000 in
set_option maxHeartbeats 4000000 in
theorem lost_c (m : MachD) (mv : Value) (q : Int) (b off c n : Nat) (xs : List Int) (w : World) (hr : Rules w mv m.rules) (hm : machOk m = true) (hq : 0 ≤ q ∧ q < m.st) (hx : Ints w (.slice (some ⟨b, off, none⟩) xs.length c) xs) (hxs : ∀ z ∈ xs, 0 ≤ z ∧ z < m.sy) (hl : xs.length = 2 * n + 1) (hn : n ≤ 4) (hn1 : 1 ≤ n) :
    Calls Tryz.prog 30 #[.agg #[.int .i64 m.sy, .int .i64 m.st, mv], .int .i64 q, .slice (some ⟨b, off, none⟩) xs.length c] w (LostRes w (ruleX m q xs) xs) := by
  obtain ⟨Am, cm, rfl, _, _⟩ := id hr.form
  have hxc : xs.length ≤ c := by
    obtain ⟨_, _, e, h, _⟩ := hx.form
    (injection e with _ _ e3) <;> omega
  obtain ⟨g, hg⟩ : ∃ g, w.heap.size = g := ⟨_, rfl⟩
  obtain ⟨W, hW⟩ : ∃ W, W = (w.alloc (.cells #[.int .i64 m.sy, .int .i64 m.st, .slice Am m.rules.length cm] 26)).alloc (.cells #[.int .i64 0, .int .i64 0, .int .i64 0] 65) := ⟨_, rfl⟩
  have hX : Ext w W := by rw [hW]; exact (Ext.alloc _ _).trans (Ext.alloc _ _)
  have bM : Blk W g 26 #[.int .i64 m.sy, .int .i64 m.st, .slice Am m.rules.length cm] := by rw [hW]; exact (Blk.new _ _ _ _ hg).alloc _
  have bO : Blk W (g + 1) 65 #[.int .i64 0, .int .i64 0, .int .i64 0] := by rw [hW]; exact Blk.new _ _ _ _ (by simp [hg])
  have m0 := bM.cell 0
  have m2 := bM.cell 2
  simp only [List.getElem?_toArray, List.getElem?_cons_zero, List.getElem?_cons_succ] at m0 m2
  obtain ⟨⟨s1, s2, s3, s4⟩, hrl, hro⟩ := machOk_five hm
  have hn2 : xs.length / 2 = n := by omega
  have hnl : n < xs.length := by omega
  obtain ⟨b', off', e', hc⟩ := (hx.ext hX).at hnl
  injection e' with e'
  injection e' with e1 e2
  subst e1 e2
  have x0 := hc n hnl
  have hz := hxs xs[n] (List.getElem_mem _)
  have hzd : xs.getD n 0 = xs[n] := by rw [List.getD_eq_getElem?_getD, List.getElem?_eq_getElem hnl]; rfl
  have hRX : ruleX m q xs = m.rules.getD (q * m.sy + xs[n]).toNat noR := by unfold ruleX; rw [hn2, hzd]
  generalize xs[n] = z at *
  have hqm := Int.mul_nonneg hq.1 (show 0 ≤ m.sy by omega)
  have hqm2 : q * m.sy ≤ (m.st - 1) * m.sy := Int.mul_le_mul_of_nonneg_right (by omega) (by omega)
  have hqm3 : (m.st - 1) * m.sy = m.sy * m.st - m.sy := by rw [Int.sub_mul, Int.mul_comm, Int.one_mul]
  obtain ⟨P, hP⟩ : ∃ P, q * m.sy = P := ⟨_, rfl⟩
  rw [hP] at hqm hqm2 hRX
  obtain ⟨K, hK⟩ : ∃ K : Nat, P + z = (K : Int) := ⟨(P + z).toNat, by omega⟩
  have hKl : K < m.rules.length := by omega
  have hmsz : m.sy * m.st ≤ 6000 := by
    have h1 : m.sy * m.st ≤ 6 * m.st := Int.mul_le_mul_of_nonneg_right (by omega) (by omega)
    omega
  have hwm : IntKind.i64.wrap (q * m.sy) = P := by rw [hP]; exact IntWalk.i64_in _ (by omega)
  have hwa : IntKind.i64.wrap (P + z) = (K : Int) := by rw [hK]; exact IntWalk.i64_in _ (by omega)
  obtain ⟨br, ofr, rfl, hcr⟩ := (hr.ext hX).at hKl
  obtain ⟨r0, r1, r2⟩ := hcr K hKl
  have hRX2 : ruleX m q xs = m.rules[K] := by
    rw [hRX, hK, Int.toNat_natCast, List.getD_eq_getElem?_getD, List.getElem?_eq_getElem hKl]
    rfl
  have hLL := hl
  have hnl2 : n < xs.length := hnl
  have hKl2 : (K : Int) < (m.rules.length : Int) := by omega
  have hnl3 : (n : Int) < (xs.length : Int) := by omega
  have hquo : ((xs.length : Int)).tdiv 2 = (n : Int) := by rw [Int.tdiv_eq_ediv_of_nonneg (by omega)]; omega
  have hquo2 : (xs.length : Int) / 2 = (n : Int) := by omega
  have HH := Lib.hid (And.intro hX (And.intro bO (And.intro hRX2 (And.intro hl (And.intro hn (And.intro (hx.ext hX) hg))))))
  clear hX bO hRX2 hl hr hx hxs hc hcr hRX hzd hn2 hP hK hqm hqm2 hqm3 hmsz hLL hnl bM hrl hro hm hq s1 s2 s3 s4 hz
  go_enter Tryz.func30, Tryz.ntmps30
  go_upto_region 2 with fail
  try rw [← hW]
  try rw [hg]
  clear hW hg
  obtain ⟨RR, hRR⟩ : ∃ R, m.rules[K] = R := ⟨_, rfl⟩
  rw [hRR] at r0 r1 r2
  have HRR := Lib.hid hRR
  obtain ⟨rw_, rm, rn⟩ := RR
  simp only at r0 r1 r2
  refine wp_region_ordT 14 (readsT [0, 1, 2, 3, 4, 5, 6, 7, 8, 9, 10, 11, 12] (.stir 13 .done)) (by kernel_rfl) (by kernel_rfl) (fun _ _ _ _ _ h => h) ?_
  simp only [readsT]
  iterate 13 (refine wpOrdT_read (v := ?_) (by rfl) (Or.inl ⟨by rfl, fun x hx => ?_⟩) ?_; rotate_left; (· have m0 := hx.cell m0; have m2 := hx.cell m2; have x0 := hx.cell x0; have r0 := hx.cell r0; have r1 := hx.cell r1; have r2 := hx.cell r2; go_simp; try with_reducible rfl); try simp only [Act.put, List.setIfInBounds_toArray, List.set_cons_zero, List.set_cons_succ])
  have hx0 : Ext W W.drew := Ext.drew W
  generalize W.drew = w0 at *
  refine wpOrdT_keep (by rfl) (fun K' hK' => ?_)
  go_simp
  refine hK' _ _ (Ext.alloc _ _) ?_
  clear hK' K'
  try simp only [Act.put, List.setIfInBounds_toArray, List.set_cons_zero, List.set_cons_succ]
  refine wpOrdT_done ?_
  try simp only [List.drop_succ_cons, List.drop_zero]
  clear m0 m2 x0 r0 r1 r2 hRR
  have IR := isRule_c rw_ rm rn
  obtain ⟨V, hV⟩ : ∃ V, V = w0.alloc (.cells #[.int .i64 rw_, .int .i64 rm, .int .i64 rn] 65) := ⟨_, rfl⟩
  obtain ⟨gr, hgr⟩ : ∃ g, w0.heap.size = g := ⟨_, rfl⟩
  have hx1 : Ext w0 V := by rw [hV]; exact Ext.alloc _ _
  have bR : Blk V gr 65 #[.int .i64 rw_, .int .i64 rm, .int .i64 rn] := by rw [hV]; exact Blk.new _ _ _ _ hgr
  have r0 := bR.cell 0
  have r1 := bR.cell 1
  have r2 := bR.cell 2
  simp only [List.getElem?_toArray, List.getElem?_cons_zero, List.getElem?_cons_succ] at r0 r1 r2
  have HV := Lib.hid (And.intro hx0 (And.intro hx1 bR))
  clear hx0 hx1 bR
  go_upto_region 3 with fail
  try rw [← hV]
  try rw [hgr]
  clear hV hgr
  go_wp2_with fail
  refine (IR V).mono ?_
  rintro e w2 ⟨rfl, hx2⟩
  have HX2 := Lib.hid hx2
  have r0 := hx2.cell r0
  have r1 := hx2.cell r1
  have r2 := hx2.cell r2
  clear hx2 IR
  cases hir : isR ⟨rw_, rm, rn⟩ with
  | false =>
    have HIR := Lib.hid hir
    have bO2 := HH.out.2.1.ext ((HV.out.1.trans HV.out.2.1).trans HX2.out)
    have o0 := bO2.cell 0
    have o1 := bO2.cell 1
    have o2 := bO2.cell 2
    have z0 := bO2.frozen 0
    have z1 := bO2.frozen 1
    have z2 := bO2.frozen 2
    simp only [List.getElem?_toArray, List.getElem?_cons_zero, List.getElem?_cons_succ] at o0 o1 o2
    clear hir bO2
    go_wp2
    have hgg := HH.out.2.2.2.2.2.2
    have hRf : ruleX m q xs = ⟨rw_, rm, rn⟩ := HH.out.2.2.1.trans HRR.out
    refine bodyPost_ret (v := .tuple #[.agg #[.int .i64 rw_, .int .i64 rm, .int .i64 rn], .slice none 0 0, .bool false]) (by simp [results, Tryz.results30, go_sem, o0, o1, o2]) rfl ?_
    have hE := ((HH.out.1.trans HV.out.1).trans HV.out.2.1).trans HX2.out
    refine ⟨((hE.setCell (by simp only; omega) _).setCell (by simp only; omega) _).setCell (by simp only; omega) _, .slice none 0 0, by rw [hRf, HIR.out], fun h => ?_, fun _ => rfl⟩
    rw [hRf, HIR.out] at h
    cases h
  | true =>
    have HIR := Lib.hid hir
    clear hir
    by_cases hm1 : rm = 1
    · have hme : (rm == 1) = true := by simp [hm1]
      have HM1 := Lib.hid hm1
      clear hm1
      go_upto_region 6 with fail
      refine wp_region_ordT 5 (readsT [0, 1, 2, 3] (.stir 4 .done)) (by kernel_rfl) (by kernel_rfl) (fun _ _ _ _ _ h => h) ?_
      simp only [readsT]
      iterate 3 (refine wpOrdT_read (v := ?_) (by rfl) (Or.inl ⟨by rfl, fun x hx => ?_⟩) ?_; rotate_left; (· have r0 := hx.cell r0; have r1 := hx.cell r1; have r2 := hx.cell r2; go_simp; try with_reducible rfl); try simp only [Act.put, List.setIfInBounds_toArray, List.set_cons_zero, List.set_cons_succ])
      refine wpOrdT_read (v := .slice (some ⟨b, off, none⟩) n c) (by rfl) (Or.inl ⟨by rfl, fun x hx => ?_⟩) ?_
      · go_simp
        intro hh
        exact absurd hh (by omega)
      try simp only [Act.put, List.setIfInBounds_toArray, List.set_cons_zero, List.set_cons_succ]
      have hxd : Ext w2 w2.drew := Ext.drew w2
      generalize w2.drew = w6 at *
      refine wpOrdT_keep (by rfl) (fun K' hK' => ?_)
      go_simp
      go_at_call 68
      have iS : Ints w6 (.slice (some ⟨b, off, none⟩) n c) (xs.take n) := ((HH.out.2.2.2.2.2.1.ext ((HV.out.1.trans HV.out.2.1).trans HX2.out)).ext hxd).take n (by omega)
      have hLs : (xs.take n).length = n := by rw [List.length_take]; omega
      refine (CloneF_c _ _ w6 iS (.inr ⟨_, _, _, _, rfl⟩) (by omega)).mono ?_
      rintro e w7 ⟨u, rfl, ou, _, hx7⟩
      refine hK' _ _ hx7 ?_
      clear hK' K' iS
      try simp only [Act.put, List.setIfInBounds_toArray, List.set_cons_zero, List.set_cons_succ]
      refine wpOrdT_done ?_
      try simp only [List.drop_succ_cons, List.drop_zero]
      have hx27 := hxd.trans hx7
      have bO7 := (HH.out.2.1.ext ((HV.out.1.trans HV.out.2.1).trans HX2.out)).ext hx27
      have o0 := bO7.cell 0
      have o1 := bO7.cell 1
      have o2 := bO7.cell 2
      have z0 := bO7.frozen 0
      have z1 := bO7.frozen 1
      have z2 := bO7.frozen 2
      simp only [List.getElem?_toArray, List.getElem?_cons_zero, List.getElem?_cons_succ] at o0 o1 o2
      have hE := (((HH.out.1.trans HV.out.1).trans HV.out.2.1).trans HX2.out).trans hxd
      have HO := Lib.hid (And.intro ou (And.intro bO7 (And.intro hE hx7)))
      clear ou bO7 hE hx7 hxd hx27 r0 r1 r2
      go_wp2
      have hgg := HH.out.2.2.2.2.2.2
      have hRf : ruleX m q xs = ⟨rw_, rm, rn⟩ := HH.out.2.2.1.trans HRR.out
      refine bodyPost_ret (v := .tuple #[.agg #[.int .i64 rw_, .int .i64 rm, .int .i64 rn], u, .bool true]) (by simp [results, Tryz.results30, go_sem, o0, o1, o2]) rfl ?_
      obtain ⟨ou, bO7, hE, hx7⟩ := HO.out
      have hs6 := hE.size
      refine ⟨(((hE.trans hx7).setCell (by simp only; omega) _).setCell (by simp only; omega) _).setCell (by simp only; omega) _, u, by rw [hRf, HIR.out], fun _ => ?_, fun h => ?_⟩
      · have hl3 : lostX (ruleX m q xs) xs = xs.take n := by
          rw [hRf]
          unfold lostX
          rw [if_pos HM1.out, show xs.length / 2 = n by omega]
        rw [hl3]
        have f := own_far_blk ou bO7 (by decide)
        exact ownsRow_base (ownsRow_far (ownsRow_far (ownsRow_far ou f _) f _) f _) hs6
      · rw [hRf, HIR.out] at h
        cases h
    · have hme : (rm == 1) = false := by simp [hm1]
      have HM1 := Lib.hid hm1
      have hw1 : IntKind.i64.wrap ((n : Int) + 1) = ((n + 1 : Nat) : Int) := by rw [show (n : Int) + 1 = ((n + 1 : Nat) : Int) by omega]; exact IntWalk.i64_in _ (by omega)
      clear hm1
      go_upto_region 7 with fail
      refine wp_region_ordT 6 (readsT [0, 1, 2, 3, 4] (.stir 5 .done)) (by kernel_rfl) (by kernel_rfl) (fun _ _ _ _ _ h => h) ?_
      simp only [readsT]
      iterate 4 (refine wpOrdT_read (v := ?_) (by rfl) (Or.inl ⟨by rfl, fun x hx => ?_⟩) ?_; rotate_left; (· have r0 := hx.cell r0; have r1 := hx.cell r1; have r2 := hx.cell r2; go_simp; try with_reducible rfl); try simp only [Act.put, List.setIfInBounds_toArray, List.set_cons_zero, List.set_cons_succ])
      refine wpOrdT_read (v := .slice (some ⟨b, off + (n + 1), none⟩) (xs.length - (n + 1)) (c - (n + 1))) (by rfl) (Or.inl ⟨by rfl, fun x hx => ?_⟩) ?_
      · go_simp
        have hlx := HH.out.2.2.2.1
        rw [if_pos (by omega), if_neg (by omega)]
      try simp only [Act.put, List.setIfInBounds_toArray, List.set_cons_zero, List.set_cons_succ]
      have hxd : Ext w2 w2.drew := Ext.drew w2
      generalize w2.drew = w6 at *
      refine wpOrdT_keep (by rfl) (fun K' hK' => ?_)
      go_simp
      go_at_call 68
      have iS : Ints w6 (.slice (some ⟨b, off + (n + 1), none⟩) (xs.length - (n + 1)) (c - (n + 1))) (xs.drop (n + 1)) := by have h9 := ((HH.out.2.2.2.2.2.1.ext ((HV.out.1.trans HV.out.2.1).trans HX2.out)).ext hxd).drop (n + 1) (by omega); first | exact h9 | (rw [List.length_drop] at h9; exact h9)
      have hLs : (xs.drop (n + 1)).length = xs.length - (n + 1) := by rw [List.length_drop]
      refine (CloneF_c _ _ w6 iS (.inr ⟨_, _, _, _, rfl⟩) (by omega)).mono ?_
      rintro e w7 ⟨u, rfl, ou, _, hx7⟩
      refine hK' _ _ hx7 ?_
      clear hK' K' iS
      try simp only [Act.put, List.setIfInBounds_toArray, List.set_cons_zero, List.set_cons_succ]
      refine wpOrdT_done ?_
      try simp only [List.drop_succ_cons, List.drop_zero]
      have hx27 := hxd.trans hx7
      have bO7 := (HH.out.2.1.ext ((HV.out.1.trans HV.out.2.1).trans HX2.out)).ext hx27
      have o0 := bO7.cell 0
      have o1 := bO7.cell 1
      have o2 := bO7.cell 2
      have z0 := bO7.frozen 0
      have z1 := bO7.frozen 1
      have z2 := bO7.frozen 2
      simp only [List.getElem?_toArray, List.getElem?_cons_zero, List.getElem?_cons_succ] at o0 o1 o2
      have hE := (((HH.out.1.trans HV.out.1).trans HV.out.2.1).trans HX2.out).trans hxd
      have HO := Lib.hid (And.intro ou (And.intro bO7 (And.intro hE hx7)))
      clear ou bO7 hE hx7 hxd hx27 r0 r1 r2
      go_wp2
      have hgg := HH.out.2.2.2.2.2.2
      have hRf : ruleX m q xs = ⟨rw_, rm, rn⟩ := HH.out.2.2.1.trans HRR.out
      refine bodyPost_ret (v := .tuple #[.agg #[.int .i64 rw_, .int .i64 rm, .int .i64 rn], u, .bool true]) (by simp [results, Tryz.results30, go_sem, o0, o1, o2]) rfl ?_
      obtain ⟨ou, bO7, hE, hx7⟩ := HO.out
      have hs6 := hE.size
      refine ⟨(((hE.trans hx7).setCell (by simp only; omega) _).setCell (by simp only; omega) _).setCell (by simp only; omega) _, u, by rw [hRf, HIR.out], fun _ => ?_, fun h => ?_⟩
      · have hl3 : lostX (ruleX m q xs) xs = xs.drop (n + 1) := by
          rw [hRf]
          unfold lostX
          rw [if_neg HM1.out, show xs.length / 2 = n by omega]
        rw [hl3]
        have f := own_far_blk ou bO7 (by decide)
        exact ownsRow_base (ownsRow_far (ownsRow_far (ownsRow_far ou f _) f _) f _) hs6
      · rw [hRf, HIR.out] at h
        cases h
end Go.Proofs.YtapjofbjedpmgaaGreat
end
