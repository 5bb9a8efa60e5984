/- Plain words on the program's test of shifts.
Contracts of the program's runner of a machine: what it looks at. The machine is valid and the configuration is one of its.
Contracts of the program's runner of a machine: the rule it looks at, and whether it halts. The machine is valid and the configuration is one of its. -/
import Derived.Test.YtojiammendjpkaaGreatB07
import Derived.Test.YtojiammendjpkaaGreatB11
import Derived.Test.YtojiammendjpkaaGreatB06
import Derived.Test.YtojiammendjpkaaGreatB10
import Derived.Maps.AppendAt
import Derived.Deep.RegionLaw
import Derived.Deep.RegionHeld3
section
set_option linter.unusedSimpArgs false
set_option linter.unusedVariables false
namespace Go.Proofs.YtojiammendjpkaaGreat
open Go Go.RowKit Go.Proofs
theorem blank_good {m : MachD} (hm : machOk m = true) : IGood m blankC := by
  obtain ⟨⟨_, _, _, _⟩, _, _⟩ := machOk_five hm
  exact ⟨Int.le_refl _, by simp only [blankC]; omega, fun z hz => by simp [blankC] at hz, fun z hz => by simp [blankC] at hz⟩
end Go.Proofs.YtojiammendjpkaaGreat
end
section
set_option linter.unusedSimpArgs false
set_option linter.unusedVariables false
namespace Go.Proofs.YtojiammendjpkaaGreat
open Go Go.RowKit Go.Proofs
set_option maxHeartbeats 400000
theorem hdD_rev (xs : List Int) (h : xs.length ≠ 0) : xs.reverse[xs.reverse.length - 1]? = some (hdD xs) := by
  cases xs with
  | nil => simp at h
  | cons a l =>
    simp [hdD]
theorem nearest_c (v : Value) (xs : List Int) (w : World) (h : Ints w v xs.reverse) (hn : xs.length ≤ 1048576) :
    Calls Tryz.prog 106 #[v] w fun e w' => e = .returned (.int .i64 (hdD xs)) ∧ w = w' := by
  have hl : xs.reverse.length = xs.length := List.length_reverse
  have hr := hdD_rev xs
  generalize xs.reverse = ys at *
  obtain ⟨A, c, rfl, h2, h2'⟩ := h.form
  by_cases h0 : xs.length = 0
  · have hz : xs = [] := List.length_eq_zero_iff.1 h0
    have HE : Hid (hdD xs = 0) := by unfold Hid; rw [hz]; rfl
    have hy0 : ys.length = 0 := by omega
    have hy : ys = [] := List.length_eq_zero_iff.1 hy0
    subst hy
    go_enter Tryz.func106, Tryz.ntmps106
    go_wp2
    go_ret
    exact ⟨by rw [HE.out]; rfl, rfl⟩
  · have hlt : ys.length - 1 < ys.length := by omega
    obtain ⟨b, off, rfl, hc⟩ := h.at hlt
    have c0 := hc (ys.length - 1) hlt
    have HE : Hid (hdD xs = ys[ys.length - 1]) := by
      have := hr h0
      rw [List.getElem?_eq_getElem hlt] at this
      injection this with this
      exact this.symm
    generalize ys[ys.length - 1] = z at *
    have hb : ((ys.length : Int) == 0) = false := by rw [beq_eq_false_iff_ne]; omega
    have i1 : (0 : Int) ≤ (ys.length : Int) - 1 := by omega
    have i2 : ((ys.length : Int) - 1) < (ys.length : Int) := by omega
    have i3 : ((ys.length : Int) - 1).toNat = ys.length - 1 := by omega
    clear hc hr hl h
    go_enter Tryz.func106, Tryz.ntmps106
    go_wp2
    go_ret
    exact ⟨by rw [HE.out]; rfl, rfl⟩
theorem rev_drop1 (xs : List Int) : (xs.drop 1).reverse = xs.reverse.take (xs.length - 1) := by
  cases xs with
  | nil => rfl
  | cons a l => simp
theorem pop_c (base : Nat) (v : Value) (xs : List Int) (w : World) (h : OwnInts base w v xs.reverse) (hn : xs.length ≤ 1048576) :
    Calls Tryz.prog 104 #[v] w fun e w' => (∃ u, e = .returned u ∧ OwnInts base w u (xs.drop 1).reverse ∧ u.ownBlock = v.ownBlock) ∧ w = w' := by
  rw [rev_drop1]
  have hl : xs.reverse.length = xs.length := List.length_reverse
  generalize xs.reverse = ys at *
  obtain ⟨A, c, rfl, h2, h2'⟩ := h.ints.form
  by_cases h0 : xs.length = 0
  · have hy0 : ys.length = 0 := by omega
    have hy : ys = [] := List.length_eq_zero_iff.1 hy0
    subst hy
    have hE : Hid (([] : List Int).take (xs.length - 1) = []) := by unfold Hid; simp
    rw [hE.out]
    clear hl h0
    go_enter Tryz.func104, Tryz.ntmps104
    go_wp2
    go_ret
    exact ⟨⟨_, rfl, h, rfl⟩, rfl⟩
  · have hne : 0 < ys.length := by omega
    obtain ⟨g, rfl, _, _⟩ := own_at h hne
    rw [show xs.length - 1 = ys.length - 1 by omega]
    have ht := OwnInts.take h (ys.length - 1) (by omega) (by simp)
    have i1 : (0 : Int) ≤ (ys.length : Int) - 1 := by omega
    have i3 : ((ys.length : Int) - 1).toNat = ys.length - 1 := by omega
    have i4 : ys.length - 1 ≤ c := by omega
    have i5 : (ys.length : Int) - 1 ≤ (c : Int) := by omega
    have i6 : max (0 : Int) ((ys.length : Int) - 1) = (ys.length : Int) - 1 := by omega
    have i7 : (1 : Int) ≤ (ys.length : Int) := by omega
    have HT := Lib.hid ht
    clear hl h0 ht
    go_enter Tryz.func104, Tryz.ntmps104
    go_wp2
    go_ret
    exact ⟨⟨_, rfl, HT.out, rfl⟩, rfl⟩
theorem rev_push (s : Int) (xs : List Int) (h : ¬ (s = 0 ∧ xs = [])) : (pushL s xs).reverse = xs.reverse ++ [s] := by
  unfold pushL
  rw [if_neg h, List.reverse_cons]
/-- Only the block of a slice, and new ones, are touched. -/
structure Pushed (w w' : World) (v u : Value) : Prop where
  os : w'.os = w.os
  tape : w'.tape = w.tape
  output : w'.output = w.output
  size : w.heap.size ≤ w'.heap.size
  same : ∀ k, k < w.heap.size → v.ownBlock ≠ some k → w'.heap[k]? = w.heap[k]?
  new : ∀ g, u.ownBlock = some g → v.ownBlock = some g ∨ w.heap.size ≤ g
theorem push_c (base : Nat) (s : Int) (v : Value) (xs : List Int) (w : World) (h : OwnInts base w v xs.reverse) (hb : base ≤ w.heap.size) (hn : xs.length ≤ 1000000) :
    Calls Tryz.prog 105 #[v, .int .i64 s] w fun e w' => ∃ u, e = .returned u ∧ OwnInts base w' u (pushL s xs).reverse ∧ Pushed w w' v u := by
  have hl : xs.reverse.length = xs.length := List.length_reverse
  obtain ⟨i0, hi, hz0, hz1, hz2⟩ := info_parts intInfo
  by_cases h0 : s = 0 ∧ xs = []
  · obtain ⟨rfl, rfl⟩ := h0
    have e : pushL 0 [] = [] := rfl
    rw [e]
    obtain ⟨A, c, rfl, h2, h2'⟩ := h.ints.form
    go_enter Tryz.func105, Tryz.ntmps105
    go_wp2
    go_ret
    exact ⟨_, rfl, h, ⟨rfl, rfl, rfl, Nat.le_refl _, fun _ _ _ => rfl, fun g hg => .inl hg⟩⟩
  · have HP := Lib.hid (rev_push s xs h0)
    have htest : s = 0 → xs.reverse.length ≠ 0 := fun hs hx => h0 ⟨hs, List.length_eq_zero_iff.1 (by omega)⟩
    rw [HP.out]
    generalize xs.reverse = ys at *
    obtain ⟨A, c, rfl, h2, h2'⟩ := h.ints.form
    have ho : w.ownsRow base 2 1 (.slice A ys.length c) ys.length (ivs ys) := h
    have ho' := ho.alloc (.cells #[.int .i64 s] 2)
    have hyl : ys.length ≤ 1000000 := by omega
    have key : Calls Tryz.prog 105 #[.slice A ys.length c, .int .i64 s] w fun e w' => ∃ u, e = .returned u ∧ OwnInts base w' u (ys ++ [s]) ∧ Pushed w w' (.slice A ys.length c) u := by
      by_cases hs : s = 0
      · have hb0 : (s == 0) = true := by simp [hs]
        have hb1 : ((ys.length : Int) == 0) = false := by rw [beq_eq_false_iff_ne]; have := htest hs; omega
        clear hs htest h0 hl HP
        go_enter Tryz.func105, Tryz.ntmps105
        go_wp2_with (at_builtin; refine wpList_append_own_at _ rfl _ _ 27 rfl base 2 i0 (.int .i64 0) 1 8 Tryz.underlying27 hi hz0 hz1 hz2 rfl (by decide) _ _ _ rfl ho' ⟨w.heap.size, 0, none⟩ 1 1 [.int .i64 s] rfl rfl (cell_one_new _ _ _) ?c2 ?c3 ?c4 ?c5 ?_)
        case c2 => intro u hu; simp at hu; subst hu; rfl
        case c3 => unfold maxLen; omega
        case c4 => omega
        case c5 => simp; omega
        intro v' w4 hown4 hg4 _ hat4
        obtain ⟨A', c', rfl, _, _, _⟩ := (ownsRow_row hown4).form
        go_wp2
        go_ret
        have hpu : Pushed w w4 (.slice A ys.length c) (.slice A' (ys.length + 1) c') := ⟨hg4.os, hg4.tape, hg4.output, by have := hg4.size; simp at this; omega, fun k hk hne => (hg4.block k (by simp; omega) (fun e => hne e.symm)).trans (Below.heap_alloc _ _ _ hk), fun g hg => by rcases hat4 with e | e <;> rw [hg] at e <;> first | exact .inl e.symm | (injection e with e; exact .inr (by rw [e]; simp))⟩
        exact ⟨_, rfl, by simpa [OwnInts, ivs_append, ivs] using hown4, hpu⟩
      · have hb0 : (s == 0) = false := by simp [hs]
        clear hs htest h0 hl HP
        go_enter Tryz.func105, Tryz.ntmps105
        go_wp2_with (at_builtin; refine wpList_append_own_at _ rfl _ _ 27 rfl base 2 i0 (.int .i64 0) 1 8 Tryz.underlying27 hi hz0 hz1 hz2 rfl (by decide) _ _ _ rfl ho' ⟨w.heap.size, 0, none⟩ 1 1 [.int .i64 s] rfl rfl (cell_one_new _ _ _) ?c2 ?c3 ?c4 ?c5 ?_)
        case c2 => intro u hu; simp at hu; subst hu; rfl
        case c3 => unfold maxLen; omega
        case c4 => omega
        case c5 => simp; omega
        intro v' w4 hown4 hg4 _ hat4
        obtain ⟨A', c', rfl, _, _, _⟩ := (ownsRow_row hown4).form
        go_wp2
        go_ret
        have hpu : Pushed w w4 (.slice A ys.length c) (.slice A' (ys.length + 1) c') := ⟨hg4.os, hg4.tape, hg4.output, by have := hg4.size; simp at this; omega, fun k hk hne => (hg4.block k (by simp; omega) (fun e => hne e.symm)).trans (Below.heap_alloc _ _ _ hk), fun g hg => by rcases hat4 with e | e <;> rw [hg] at e <;> first | exact .inl e.symm | (injection e with e; exact .inr (by rw [e]; simp))⟩
        exact ⟨_, rfl, by simpa [OwnInts, ivs_append, ivs] using hown4, hpu⟩
    exact key
end Go.Proofs.YtojiammendjpkaaGreat
end
section
set_option linter.unusedSimpArgs false
set_option linter.unusedVariables false
namespace Go.Proofs.YtojiammendjpkaaGreat
open Go Go.RowKit Go.Proofs
set_option maxHeartbeats 400000
/-- A runner, in memory; w0: the world where it began. -/
structure RunAt (w0 w : World) (b : Nat) (m : MachD) (c : ConfD) (mv lv rv : Value) : Prop where
  blk : Blk w b 159 #[.int .i64 m.sy, .int .i64 m.st, mv, .int .i64 c.q, lv, rv]
  rules0 : Rules w0 mv m.rules
  ext0 : Ext w0 w
  l : OwnInts w0.heap.size w lv c.l.reverse
  r : OwnInts w0.heap.size w rv c.r.reverse
  ap : ∀ g, lv.ownBlock = some g → rv.ownBlock ≠ some g
  low : w0.heap.size ≤ b
theorem RunAt.ext {w0 w w' : World} {b : Nat} {m : MachD} {c : ConfD} {mv lv rv : Value} (h : RunAt w0 w b m c mv lv rv) (he : Ext w w') : RunAt w0 w' b m c mv lv rv :=
  ⟨h.blk.ext he, h.rules0, h.ext0.trans he, h.l.ext he, h.r.ext he, h.ap, h.low⟩
theorem RunAt.rules {w0 w : World} {b : Nat} {m : MachD} {c : ConfD} {mv lv rv : Value} (h : RunAt w0 w b m c mv lv rv) : Rules w mv m.rules := h.rules0.ext h.ext0
theorem symbol_c (w0 w : World) (b : Nat) (m : MachD) (c : ConfD) (mv lv rv : Value) (h : RunAt w0 w b m c mv lv rv) (hn : c.r.length ≤ 1000) :
    Calls Tryz.prog 185 #[.pointer (some ⟨b, 0, none⟩)] w fun e w' => e = .returned (.int .i64 (hdD c.r)) ∧ w = w' := by
  have c5 := h.blk.cell 5
  simp only [List.getElem?_toArray, List.getElem?_cons_zero, List.getElem?_cons_succ] at c5
  have hr := h.r.ints
  go_enter Tryz.func185, Tryz.ntmps185
  go_wp2_with fail
  refine (nearest_c _ c.r w hr (by omega)).mono ?_
  rintro e w' ⟨rfl, rfl⟩
  go_wp2
  go_ret
  exact ⟨rfl, rfl⟩
theorem at_c (w0 w : World) (b : Nat) (m : MachD) (c : ConfD) (mv lv rv : Value) (k : Nat) (h : RunAt w0 w b m c mv lv rv) (hn : c.r.length ≤ 1000) (hm : machOk m = true) (hg : IGood m c) (hk : c.q * m.sy + hdD c.r = (k : Int)) (hkl : k < m.rules.length) :
    Calls Tryz.prog 153 #[.pointer (some ⟨b, 0, none⟩)] w fun e w' => e = .returned (.int .i64 k) ∧ Ext w w' := by
  obtain ⟨⟨s1, s2, s3, s4⟩, hl, _⟩ := machOk_five hm
  have c0 := h.blk.cell 0
  have c3 := h.blk.cell 3
  simp only [List.getElem?_toArray, List.getElem?_cons_zero, List.getElem?_cons_succ] at c0 c3
  have d0 := cellR c0
  have d3 := cellR c3
  have hS := fun d os => symbol_c w0 _ b m c mv lv rv (h.ext (below_regrown w d os)) hn
  have hh := hdD_of hg.r (by omega)
  have q0 := hg.q0
  have q1 := hg.q1
  have hlen : m.rules.length ≤ 6000 := by have := (mul_bounds s1 s2 s3 s4).2; omega
  generalize hdD c.r = z at *
  have hp0 : 0 ≤ c.q * m.sy := Int.mul_nonneg q0 (by omega)
  have hp1 : c.q * m.sy ≤ 6000 := by omega
  have hw1 : IntKind.i64.wrap (c.q * m.sy) = c.q * m.sy := IntWalk.i64_in _ (by omega)
  have hw2 : IntKind.i64.wrap (c.q * m.sy + z) = (k : Int) := by rw [IntWalk.i64_in _ (by omega), hk]
  have hw3 : IntKind.i64.wrap (k : Int) = (k : Int) := IntWalk.i64_in _ (by omega)
  clear hl
  go_enter Tryz.func153, Tryz.ntmps153
  go_wp2
  refine wp_region_ext (by kernel_rfl) (by kernel_rfl) ?_
  repeat (go_big_quiet_step ((go_at_call 185; exact Calls.sameR (hS _ _))))
  refine wpQuiet_nil ?_
  intro w2 hx2
  go_wp2
  go_ret
  exact ⟨rfl, hx2⟩
theorem rule_c (w0 w : World) (b : Nat) (m : MachD) (c : ConfD) (mv lv rv : Value) (h : RunAt w0 w b m c mv lv rv) (hn : c.r.length ≤ 1000) (hm : machOk m = true) (hg : IGood m c) :
    Calls Tryz.prog 103 #[.pointer (some ⟨b, 0, none⟩)] w fun e w' => e = .returned (.agg #[.int .i64 (lookI m c).w, .int .i64 (lookI m c).m, .int .i64 (lookI m c).n]) ∧ Ext w w' := by
  obtain ⟨k, hkl, hk⟩ := hg.idx hm
  rw [lookI_get hkl hk]
  have hru := h.rules
  obtain ⟨A, cap, rfl, _, _⟩ := hru.form
  obtain ⟨b', off, rfl, hc⟩ := hru.at hkl
  obtain ⟨r0, r1, r2⟩ := hc k hkl
  obtain ⟨W, hW⟩ : ∃ W, W = w.alloc (.cells #[.int .i64 0, .int .i64 0, .int .i64 0] 76) := ⟨_, rfl⟩
  have hXW : Ext w W := by rw [hW]; exact Ext.alloc _ _
  have bZ : Blk W w.heap.size 76 #[.int .i64 0, .int .i64 0, .int .i64 0] := by rw [hW]; exact Blk.new _ _ _ _ rfl
  have h1 := h.ext hXW
  have c2 := h1.blk.cell 2
  simp only [List.getElem?_toArray, List.getElem?_cons_zero, List.getElem?_cons_succ] at c2
  have q2 := h.blk.cell 2
  simp only [List.getElem?_toArray, List.getElem?_cons_zero, List.getElem?_cons_succ] at q2
  have e0 := hXW.cell r0
  have e1 := hXW.cell r1
  have e2 := hXW.cell r2
  have hA := fun d os => at_c w0 _ b m c _ lv rv k (h1.ext (below_regrown W d os)) hn hm hg hk hkl
  have i1 : (0 : Int) ≤ (k : Int) := by omega
  have i2 : (k : Int) < (m.rules.length : Int) := by omega
  clear hc
  generalize m.rules[k] = ru at *
  go_enter Tryz.func103, Tryz.ntmps103
  go_wp2_with fail
  rw [← hW]
  clear hW
  have hA1 := at_c w0 W.drew b m c _ lv rv k (h1.ext (Ext.drew W)) hn hm hg hk hkl
  go_region_held3 (fun w' => w'.cell? ⟨b, 2, none⟩ = some (.slice (some ⟨b', off, none⟩) m.rules.length cap) ∧ w'.cell? ⟨b', off + k * 3, none⟩ = some (.int .i64 ru.w) ∧ w'.cell? ⟨b', off + k * 3 + 1, none⟩ = some (.int .i64 ru.m) ∧ w'.cell? ⟨b', off + k * 3 + 2, none⟩ = some (.int .i64 ru.n))
    (first | go_keep | exact ⟨hx2.cell c2, hx2.cell e0, hx2.cell e1, hx2.cell e2⟩ | exact ⟨(hS _ _ _).cell q2, (hS _ _ _).cell r0, (hS _ _ _).cell r1, (hS _ _ _).cell r2⟩)
    (first
      | (go_at_call 153; ((with_reducible refine hA1.mono ?_)); rintro e w2 ⟨rfl, hx2'⟩; have hx2 := (Ext.drew W).trans hx2'; have z0 := (bZ.ext hx2).cell; have z1 := (bZ.ext hx2).frozen; have hS := fun x y z => (((hXW.trans hx2).setCell (p := ⟨w.heap.size, 0, none⟩) (Nat.le_refl _) x).setCell (p := ⟨w.heap.size, 1, none⟩) (Nat.le_refl _) y).setCell (p := ⟨w.heap.size, 2, none⟩) (Nat.le_refl _) z))
  all_goals
    clear hS e0 e1 e2 c2 q2 r0 r1 r2
    go_wp2
    refine bodyPost_ret (v := .agg #[.int .i64 ru.w, .int .i64 ru.m, .int .i64 ru.n]) (by simp [results, Tryz.results103, go_sem, z0]) rfl ⟨rfl, ?_⟩
    exact (((hXW.trans hx2).setCell (p := ⟨w.heap.size, 0, none⟩) (Nat.le_refl _) _).setCell (p := ⟨w.heap.size, 1, none⟩) (Nat.le_refl _) _).setCell (p := ⟨w.heap.size, 2, none⟩) (Nat.le_refl _) _
theorem halts_c (w0 w : World) (b : Nat) (m : MachD) (c : ConfD) (mv lv rv : Value) (h : RunAt w0 w b m c mv lv rv) (hn : c.r.length ≤ 1000) (hm : machOk m = true) (hg : IGood m c) :
    Calls Tryz.prog 50 #[.pointer (some ⟨b, 0, none⟩)] w fun e w' => e = .returned (.bool (decide (lookI m c = noR))) ∧ Ext w w' := by
  have hR := rule_c w0 w b m c mv lv rv h hn hm hg
  have HE : Hid ((!isR (lookI m c)) = decide (lookI m c = noR)) := by unfold Hid isR; simp [rEq]
  obtain ⟨ru, hru⟩ : ∃ ru, ru = lookI m c := ⟨_, rfl⟩
  rw [← hru] at hR HE ⊢
  clear hru
  obtain ⟨r0, r1, r2⟩ := ru
  go_enter Tryz.func50, Tryz.ntmps50
  go_wp2_with fail
  refine hR.mono ?_
  rintro e w1 ⟨rfl, hx1⟩
  go_wp2_with fail
  refine (isRule_c r0 r1 r2 _).mono ?_
  rintro e w2 ⟨rfl, hx2⟩
  generalize isR ⟨r0, r1, r2⟩ = x at *
  go_wp2
  go_ret
  exact ⟨by rw [← HE.out]; rfl, hx1.trans hx2⟩
end Go.Proofs.YtojiammendjpkaaGreat
end
