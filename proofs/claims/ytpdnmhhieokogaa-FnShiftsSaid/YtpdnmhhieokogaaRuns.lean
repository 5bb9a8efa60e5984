/- Contracts of the program's runner of a machine: the rule it looks at, and whether it halts. The machine is valid and the configuration is one of its. -/
import Derived.Test.YtpdnmhhieokogaaRunr
set_option linter.unusedSimpArgs false
set_option linter.unusedVariables false
namespace Go.Proofs.Ytpdnmhhieokogaa
open Go Go.RowKit Go.Proofs
set_option maxHeartbeats 400000
/-- A runner, in memory; w0: the world where it began. -/
structure RunAt (w0 w : World) (b : Nat) (m : MachD) (c : ConfD) (mv lv rv : Value) : Prop where
  blk : Blk w b 85 #[.int .i64 m.sy, .int .i64 m.st, mv, .int .i64 c.q, lv, rv]
  rules0 : Rules w0 mv m.rules
  ext0 : Ext w0 w
  l : OwnInts w0.heap.size w lv c.l.reverse
  r : OwnInts w0.heap.size w rv c.r.reverse
  ap : ∀ g, lv.ownBlock = some g → rv.ownBlock ≠ some g
  low : w0.heap.size ≤ b
theorem RunAt.ext {w0 w w' : World} {b : Nat} {m : MachD} {c : ConfD} {mv lv rv : Value} (h : RunAt w0 w b m c mv lv rv) (he : Ext w w') : RunAt w0 w' b m c mv lv rv :=
  ⟨h.blk.ext he, h.rules0, h.ext0.trans he, h.l.ext he, h.r.ext he, h.ap, h.low⟩
theorem RunAt.rules {w0 w : World} {b : Nat} {m : MachD} {c : ConfD} {mv lv rv : Value} (h : RunAt w0 w b m c mv lv rv) : Rules w mv m.rules := h.rules0.ext h.ext0
theorem symbol_c (w0 w : World) (b : Nat) (m : MachD) (c : ConfD) (mv lv rv : Value) (h : RunAt w0 w b m c mv lv rv) (hn : c.r.length ≤ 1000) :
    Calls Try.prog 82 #[.pointer (some ⟨b, 0, none⟩)] w fun e w' => e = .returned (.int .i64 (hdD c.r)) ∧ w = w' := by
  have c5 := h.blk.cell 5
  simp only [List.getElem?_toArray, List.getElem?_cons_zero, List.getElem?_cons_succ] at c5
  have hr := h.r.ints
  go_enter Try.func82, Try.ntmps82
  go_wp2_with fail
  refine (nearest_c _ c.r w hr (by omega)).mono ?_
  rintro e w' ⟨rfl, rfl⟩
  go_wp2
  go_ret
  exact ⟨rfl, rfl⟩
theorem at_c (w0 w : World) (b : Nat) (m : MachD) (c : ConfD) (mv lv rv : Value) (k : Nat) (h : RunAt w0 w b m c mv lv rv) (hn : c.r.length ≤ 1000) (hm : machOk m = true) (hg : IGood m c) (hk : c.q * m.sy + hdD c.r = (k : Int)) (hkl : k < m.rules.length) :
    Calls Try.prog 68 #[.pointer (some ⟨b, 0, none⟩)] w fun e w' => e = .returned (.int .i64 k) ∧ Ext w w' := by
  obtain ⟨⟨s1, s2, s3, s4⟩, hl, _⟩ := machOk_five hm
  have c0 := h.blk.cell 0
  have c3 := h.blk.cell 3
  simp only [List.getElem?_toArray, List.getElem?_cons_zero, List.getElem?_cons_succ] at c0 c3
  have d0 := cellR c0
  have d3 := cellR c3
  have hS := fun d os => symbol_c w0 _ b m c mv lv rv (h.ext (below_regrown w d os)) hn
  have hh := hdD_of hg.r (by omega)
  have q0 := hg.q0
  have q1 := hg.q1
  have hlen : m.rules.length ≤ 6000 := by have := (mul_bounds s1 s2 s3 s4).2; omega
  generalize hdD c.r = z at *
  have hp0 : 0 ≤ c.q * m.sy := Int.mul_nonneg q0 (by omega)
  have hp1 : c.q * m.sy ≤ 6000 := by omega
  have hw1 : IntKind.i64.wrap (c.q * m.sy) = c.q * m.sy := IntWalk.i64_in _ (by omega)
  have hw2 : IntKind.i64.wrap (c.q * m.sy + z) = (k : Int) := by rw [IntWalk.i64_in _ (by omega), hk]
  have hw3 : IntKind.i64.wrap (k : Int) = (k : Int) := IntWalk.i64_in _ (by omega)
  clear hl
  go_enter Try.func68, Try.ntmps68
  go_wp2
  refine wp_region_ext (by kernel_rfl) (by kernel_rfl) ?_
  repeat (go_big_quiet_step ((go_at_call 82; exact Calls.sameR (hS _ _))))
  refine wpQuiet_nil ?_
  intro w2 hx2
  go_wp2
  go_ret
  exact ⟨rfl, hx2⟩
theorem rule_c (w0 w : World) (b : Nat) (m : MachD) (c : ConfD) (mv lv rv : Value) (h : RunAt w0 w b m c mv lv rv) (hn : c.r.length ≤ 1000) (hm : machOk m = true) (hg : IGood m c) :
    Calls Try.prog 55 #[.pointer (some ⟨b, 0, none⟩)] w fun e w' => e = .returned (.agg #[.int .i64 (lookI m c).w, .int .i64 (lookI m c).m, .int .i64 (lookI m c).n]) ∧ Ext w w' := by
  obtain ⟨k, hkl, hk⟩ := hg.idx hm
  rw [lookI_get hkl hk]
  have hru := h.rules
  obtain ⟨A, cap, rfl, _, _⟩ := hru.form
  obtain ⟨b', off, rfl, hc⟩ := hru.at hkl
  obtain ⟨r0, r1, r2⟩ := hc k hkl
  obtain ⟨W, hW⟩ : ∃ W, W = w.alloc (.cells #[.int .i64 0, .int .i64 0, .int .i64 0] 92) := ⟨_, rfl⟩
  have hXW : Ext w W := by rw [hW]; exact Ext.alloc _ _
  have bZ : Blk W w.heap.size 92 #[.int .i64 0, .int .i64 0, .int .i64 0] := by rw [hW]; exact Blk.new _ _ _ _ rfl
  have h1 := h.ext hXW
  have c2 := h1.blk.cell 2
  simp only [List.getElem?_toArray, List.getElem?_cons_zero, List.getElem?_cons_succ] at c2
  have q2 := h.blk.cell 2
  simp only [List.getElem?_toArray, List.getElem?_cons_zero, List.getElem?_cons_succ] at q2
  have e0 := hXW.cell r0
  have e1 := hXW.cell r1
  have e2 := hXW.cell r2
  have hA := fun d os => at_c w0 _ b m c _ lv rv k (h1.ext (below_regrown W d os)) hn hm hg hk hkl
  have i1 : (0 : Int) ≤ (k : Int) := by omega
  have i2 : (k : Int) < (m.rules.length : Int) := by omega
  clear hc
  generalize m.rules[k] = ru at *
  go_enter Try.func55, Try.ntmps55
  go_wp2_with fail
  rw [← hW]
  clear hW
  have hA1 := at_c w0 W.drew b m c _ lv rv k (h1.ext (Ext.drew W)) hn hm hg hk hkl
  go_region_held3 (fun w' => w'.cell? ⟨b, 2, none⟩ = some (.slice (some ⟨b', off, none⟩) m.rules.length cap) ∧ w'.cell? ⟨b', off + k * 3, none⟩ = some (.int .i64 ru.w) ∧ w'.cell? ⟨b', off + k * 3 + 1, none⟩ = some (.int .i64 ru.m) ∧ w'.cell? ⟨b', off + k * 3 + 2, none⟩ = some (.int .i64 ru.n))
    (first | go_keep | exact ⟨hx2.cell c2, hx2.cell e0, hx2.cell e1, hx2.cell e2⟩ | exact ⟨(hS _ _ _).cell q2, (hS _ _ _).cell r0, (hS _ _ _).cell r1, (hS _ _ _).cell r2⟩)
    (first
      | (go_at_call 68; ((with_reducible refine hA1.mono ?_)); rintro e w2 ⟨rfl, hx2'⟩; have hx2 := (Ext.drew W).trans hx2'; have z0 := (bZ.ext hx2).cell; have z1 := (bZ.ext hx2).frozen; have hS := fun x y z => (((hXW.trans hx2).setCell (p := ⟨w.heap.size, 0, none⟩) (Nat.le_refl _) x).setCell (p := ⟨w.heap.size, 1, none⟩) (Nat.le_refl _) y).setCell (p := ⟨w.heap.size, 2, none⟩) (Nat.le_refl _) z))
  all_goals
    clear hS e0 e1 e2 c2 q2 r0 r1 r2
    go_wp2
    refine bodyPost_ret (v := .agg #[.int .i64 ru.w, .int .i64 ru.m, .int .i64 ru.n]) (by simp [results, Try.results55, go_sem, z0]) rfl ⟨rfl, ?_⟩
    exact (((hXW.trans hx2).setCell (p := ⟨w.heap.size, 0, none⟩) (Nat.le_refl _) _).setCell (p := ⟨w.heap.size, 1, none⟩) (Nat.le_refl _) _).setCell (p := ⟨w.heap.size, 2, none⟩) (Nat.le_refl _) _
theorem halts_c (w0 w : World) (b : Nat) (m : MachD) (c : ConfD) (mv lv rv : Value) (h : RunAt w0 w b m c mv lv rv) (hn : c.r.length ≤ 1000) (hm : machOk m = true) (hg : IGood m c) :
    Calls Try.prog 54 #[.pointer (some ⟨b, 0, none⟩)] w fun e w' => e = .returned (.bool (decide (lookI m c = noR))) ∧ Ext w w' := by
  have hR := rule_c w0 w b m c mv lv rv h hn hm hg
  have HE : Hid ((!isR (lookI m c)) = decide (lookI m c = noR)) := by unfold Hid isR; simp [rEq]
  obtain ⟨ru, hru⟩ : ∃ ru, ru = lookI m c := ⟨_, rfl⟩
  rw [← hru] at hR HE ⊢
  clear hru
  obtain ⟨r0, r1, r2⟩ := ru
  go_enter Try.func54, Try.ntmps54
  go_wp2_with fail
  refine hR.mono ?_
  rintro e w1 ⟨rfl, hx1⟩
  go_wp2_with fail
  refine (isRule_c r0 r1 r2 _).mono ?_
  rintro e w2 ⟨rfl, hx2⟩
  generalize isR ⟨r0, r1, r2⟩ = x at *
  go_wp2
  go_ret
  exact ⟨by rw [← HE.out]; rfl, hx1.trans hx2⟩
end Go.Proofs.Ytpdnmhhieokogaa
