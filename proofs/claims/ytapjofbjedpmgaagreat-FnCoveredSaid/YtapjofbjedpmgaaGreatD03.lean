/- Contract of the program's run of a machine by its runner. The machine is valid and the configuration is one of its.
Contracts of the reference's draws of machines that are decided. Written by mkshh.py.
The walk of the law on the steps of covered configurations. Written by law18.py. -/
import Derived.Test.YtapjofbjedpmgaaGreatC01
import Derived.Test.YtapjofbjedpmgaaGreatC02
import Derived.Test.YtapjofbjedpmgaaGreatC03
import Derived.Test.YtapjofbjedpmgaaGreatC04
import Derived.Test.YtapjofbjedpmgaaGreatC05
import Derived.Test.YtapjofbjedpmgaaGreatC06
import Derived.Test.YtapjofbjedpmgaaGreatC07
import Derived.Test.YtapjofbjedpmgaaGreatC08
import Derived.Test.YtapjofbjedpmgaaGreatC09
import Derived.Test.YtapjofbjedpmgaaGreatC10
import Derived.Test.YtapjofbjedpmgaaGreatC11
import Derived.Test.YtapjofbjedpmgaaGreatC12
import Derived.Test.YtapjofbjedpmgaaGreatC13
import Derived.Test.YtapjofbjedpmgaaGreatC14
import Derived.Test.YtapjofbjedpmgaaGreatC15
import Derived.Test.YtapjofbjedpmgaaGreatC16
import Derived.Test.YtapjofbjedpmgaaGreatC17
import Derived.Test.YtapjofbjedpmgaaGreatC18
import Derived.Test.YtapjofbjedpmgaaGreatC19
import Derived.Test.YtapjofbjedpmgaaGreatC20
import Derived.Test.YtapjofbjedpmgaaGreatC21
import Derived.Test.YtapjofbjedpmgaaGreatC22
import Derived.Test.YtapjofbjedpmgaaGreatC23
import Derived.Test.YtapjofbjedpmgaaGreatC24
import Derived.Test.YtapjofbjedpmgaaGreatC25
import Derived.Test.YtapjofbjedpmgaaGreatC26
import Derived.Test.YtapjofbjedpmgaaGreatC27
import Derived.Test.YtapjofbjedpmgaaGreatC28
import Derived.Test.YtapjofbjedpmgaaGreatC29
import Derived.Test.YtapjofbjedpmgaaGreatC30
import Derived.Test.YtapjofbjedpmgaaGreatC31
import Derived.Test.YtapjofbjedpmgaaGreatC32
import Derived.Test.YtapjofbjedpmgaaGreatC33
import Derived.Test.YtapjofbjedpmgaaGreatC34
import Derived.Test.YtapjofbjedpmgaaGreatC35
import Derived.Test.YtapjofbjedpmgaaGreatC36
import Derived.Test.YtapjofbjedpmgaaGreatC37
import Derived.Test.YtapjofbjedpmgaaGreatC38
import Derived.Test.YtapjofbjedpmgaaGreatC39
import Derived.Test.YtapjofbjedpmgaaGreatC40
import Derived.Test.YtapjofbjedpmgaaGreatC41
import Derived.Test.YtapjofbjedpmgaaGreatC42
import Derived.Test.YtapjofbjedpmgaaGreatC43
import Derived.Test.YtapjofbjedpmgaaGreatC44
import Derived.Test.YtapjofbjedpmgaaGreatC45
import Derived.Test.YtapjofbjedpmgaaGreatC46
import Derived.Test.YtapjofbjedpmgaaGreatC47
import Derived.Test.YtapjofbjedpmgaaGreatC48
import Derived.Test.YtapjofbjedpmgaaGreatD01
import Derived.Test.YtapjofbjedpmgaaGreatD02
import Derived.Deep.RegionHeld3
section
set_option linter.unusedSimpArgs false
set_option linter.unusedVariables false
namespace Go.Proofs.YtapjofbjedpmgaaGreat
open Go Go.RowKit Go.Proofs Go.Shelf
attribute [local go_sem] Oper.semAt_some
set_option maxHeartbeats 400000
section
variable {w0 : World} {b k : Nat} {m : MachD} {c : ConfD} {mv : Value} {N B : Nat}
theorem stR_own (h0 : w0.heap.size ≤ B) (pre : List (Int × Bool)) (x : Int × Bool) : OwnFrom B (fun (_ : Unit) W => StR w0 b m c mv N pre x W) := by
  rintro s W W' row ⟨i, lv, rv, hR, h2⟩ hg hr
  exact ⟨i, lv, rv, hR.turn hg (fun r e => ⟨Nat.le_trans h0 (hr r e).1, (hr r e).2⟩), h2⟩
theorem sR_own (h0 : w0.heap.size ≤ B) : OwnFrom B (SR w0 b m c mv N) := by
  rintro s W W' row ⟨i, lv, rv, p, hR, h2⟩ hg hr
  exact ⟨i, lv, rv, p, hR.turn hg (fun r e => ⟨Nat.le_trans h0 (hr r e).1, (hr r e).2⟩), h2⟩
theorem spR_own (h0 : w0.heap.size ≤ B) : OwnFrom B (SpR w0 b m c mv N) := by
  rintro s W W' row ⟨i, lv, rv, p, hR, h2⟩ hg hr
  exact ⟨i, lv, rv, p, hR.turn hg (fun r e => ⟨Nat.le_trans h0 (hr r e).1, (hr r e).2⟩), h2⟩
end
theorem kp_set {w0 W : World} {b bq bp : Nat} {m : MachD} {d : ConfD} {mv lv rv : Value} (h : RunAt w0 W b m d mv lv rv) {p : Addr} (ha : Apt b p.block lv rv) (h0 : w0.heap.size ≤ p.block) (hq : bq ≠ p.block) (hp : bp ≠ p.block) (u : Value) :
    KpR w0 b bq bp m mv W (W.setCell p u) ∧ RunAt w0 (W.setCell p u) b m d mv lv rv := by
  refine ⟨⟨(grownBy_setCell W p u).size, fun d' l' r' h' => ?_, Below.heap_setCell W p u bq hq, Below.heap_setCell W p u bp hp⟩, h.apart ha.nb ha.nl ha.nr h0 u⟩
  obtain ⟨rfl, rfl⟩ := h.vals h'
  exact h'.apart ha.nb ha.nl ha.nr h0 u
end Go.Proofs.YtapjofbjedpmgaaGreat
end
section
set_option linter.unusedSimpArgs false
set_option linter.unusedVariables false
namespace Go.Proofs.YtapjofbjedpmgaaGreat
open Go Go.RowKit Go.Proofs
set_option maxHeartbeats 400000
def known25 : List ByteArray := [⟨#[49, 82, 48, 44, 49, 82, 48]⟩, ⟨#[48, 82, 48, 44, 48, 82, 48]⟩, ⟨#[49, 76, 48, 44, 48, 82, 48]⟩, ⟨#[49, 82, 49, 44, 45, 45, 45, 59, 49, 76, 48, 44, 48, 82, 49]⟩, ⟨#[49, 82, 49, 44, 48, 76, 48, 59, 49, 76, 48, 44, 49, 82, 49]⟩, ⟨#[48, 76, 49, 44, 49, 82, 48, 59, 49, 82, 48, 44, 48, 76, 49]⟩, ⟨#[49, 82, 49, 44, 48, 82, 49, 59, 49, 76, 48, 44, 48, 76, 48]⟩, ⟨#[49, 76, 49, 44, 49, 76, 49, 59, 49, 82, 48, 44, 48, 82, 48]⟩, ⟨#[49, 82, 49, 44, 49, 76, 49, 59, 48, 76, 48, 44, 48, 82, 49]⟩]
theorem known25_ok : (known25.all fun x => parseOk x && !(parseM x).rules.isEmpty && decide ((parseM x).rules.length ≤ 600) && machOk (parseM x)) = true := by decide +kernel
set_option maxRecDepth 20000 in
set_option maxHeartbeats 2000000 in
theorem l25DrawMachine_c (B b n : Nat) (w : World) (h : Src B w b n) (hB : B ≤ w.heap.size) (hn : n ≤ 100000000) :
    Calls Tryz.prog 84 #[.pointer (some ⟨b, 0, none⟩)] w (MRes B w b n 600) := by
  have hbl := h.lt
  obtain ⟨W, hW⟩ : ∃ W, W = w.alloc (.cells #[.int .i64 0, .int .i64 0, .slice none 0 0] 26) := ⟨_, rfl⟩
  have hX : Ext w W := by rw [hW]; exact Ext.alloc _ _
  have bR : Blk W w.heap.size 26 #[.int .i64 0, .int .i64 0, .slice none 0 0] := by rw [hW]; exact Blk.new _ _ _ _ rfl
  have hsW := h.ext hX
  have HK := Lib.hid known25_ok
  go_enter Tryz.func84, Tryz.ntmps84
  go_wp2_with fail
  rw [← hW]
  clear hW
  refine (one_c B b n 3 W hsW (by omega)).mono ?_
  rintro e w1 ⟨⟨q, rfl⟩, hs1, hg1⟩
  have hW1 : w.grownBy w1 (some b) := grownBy_trans (ext_grownBy hX _) hg1
  have b1 := blk_src hsW hg1 bR (by decide)
  have z1 := hW1.size
  generalize hg : w.heap.size = g at *
  have HG := Lib.hid hg
  clear hg
  cases q with
  | true =>
    obtain ⟨V, hV⟩ : ∃ V, V = w1.alloc (.cells (known25.map Value.string).toArray 9) := ⟨_, rfl⟩
    have hXV : Ext w1 V := by rw [hV]; exact Ext.alloc _ _
    have oL : OwnStrs w1.heap.size V (.slice (some ⟨w1.heap.size, 0, none⟩) 9 9) known25 := by
      refine ⟨rfl, .inr ⟨w1.heap.size, 9, (known25.map Value.string).toArray, rfl, Nat.le_refl _, ?_, Nat.le_refl _, by unfold maxLen; omega, rfl, rfl⟩⟩
      rw [hV]
      exact Blk.new _ _ _ _ rfl
    simp only [known25, List.map_cons, List.map_nil] at hV
    go_wp2_with fail
    rw [← hV]
    clear hV
    refine (text_c B w1.heap.size b _ _ known25 V (hs1.ext hXV) oL (by decide) (by omega)).mono ?_
    rintro e w2 ⟨⟨x, rfl, hx⟩, hs2, hg2⟩
    have hk := (List.all_eq_true.1 HK.out) x hx
    simp only [Bool.and_eq_true, Bool.not_eq_true', decide_eq_true_eq] at hk
    obtain ⟨⟨⟨hp, hne⟩, hle⟩, hmo⟩ := hk
    have HMO := Lib.hid hmo
    have HLE := Lib.hid hle
    have b2 := blk_src (hs1.ext hXV) hg2 (b1.ext hXV) (by decide)
    have HP := Lib.hid hp
    have HNE : Hid (0 < (parseM x).rules.length) := by
      unfold Hid
      cases hl : (parseM x).rules with
      | nil => rw [hl] at hne; simp at hne
      | cons _ _ => simp
    have hW2 : w.grownBy w2 (some b) := grownBy_trans (grownBy_trans hW1 (ext_grownBy hXV _)) hg2
    have z2 := hW2.size
    clear hp hne hx hle hmo oL
    go_wp2_with fail
    refine (l05Read_c x w2 HP.out).mono ?_
    rintro e w3 ⟨⟨rv, rfl, ho2⟩, hx3⟩
    generalize parseM x = m at *
    obtain ⟨A, c, rfl, k1, k2, _⟩ := (ownsRow_row ho2).form
    have b3 := b2.ext hx3
    have hlt3 := b3.lt
    have d := b3.cell
    have f := b3.frozen
    have hs3 := hs2.ext hx3
    go_wp2
    obtain ⟨r1, r2, r3⟩ := done3 hs3 (grownBy_trans hW2 (ext_grownBy hx3 _)) hB hbl HG.out ho2 b3 (.int .i64 m.sy) (.int .i64 m.st) (.slice A m.rules.length c)
    refine bodyPost_ret (v := .agg #[.int .i64 m.sy, .int .i64 m.st, .slice A m.rules.length c]) ?_ rfl ⟨⟨m, _, rfl, ?_, HNE.out, HLE.out, HMO.out⟩, (r1.ext (Ext.alloc _ _)).mono (by omega), grownBy_trans r2 (ext_grownBy (Ext.alloc _ _) _)⟩
    · have d' := ((((b3.set_ 0 (.int .i64 m.sy)).set_ 1 (.int .i64 m.st)).set_ 2 (.slice A m.rules.length c)).alloc (.cells #[.int .i64 m.sy, .int .i64 m.st, .slice A m.rules.length c] 26)).cell
      simp [results, Tryz.results84, go_sem, d']
    · have := r3.ext (Ext.alloc _ (.cells #[.int .i64 m.sy, .int .i64 m.st, .slice A m.rules.length c] 26))
      exact ownsRow_base this z2
  | false =>
    go_wp2_with fail
    refine (pick_c B b _ 3 w1 hs1 (by omega)).mono ?_
    rintro e w4 ⟨⟨y, rfl, y0, _, y2⟩, hs4, hg4⟩
    have y3 := y2 (by omega)
    have b4 := blk_src hs1 hg4 b1 (by decide)
    have hW4 := grownBy_trans hW1 hg4
    have z4 := hg4.size
    go_wp2_with fail
    refine (l05DrawSize_m B b _ 2 (1 + y) w4 hs4 (by omega) (by omega) (by omega) (by omega) (by omega) (by omega)).mono ?_
    rintro e w5 ⟨⟨m, rv, rfl, ho, hl⟩, hs5, hg5⟩
    have b5 := blk_src hs4 hg5 b4 (by decide)
    have d := b5.cell
    have f := b5.frozen
    obtain ⟨A, c, rfl, _, _, _⟩ := (ownsRow_row ho).form
    go_wp2
    refine bodyPost_ret (v := .agg #[.int .i64 m.sy, .int .i64 m.st, .slice A m.rules.length c]) ?_ rfl (MRes.of hs5 (by omega) (grownBy_trans hW4 hg5) hB hbl HG.out ho (by omega) b5 hl)
    simp [results, Tryz.results84, go_sem, d]
def known27 : List ByteArray := [⟨#[49, 76, 49, 44, 49, 82, 48, 59, 49, 82, 48, 44, 49, 76, 49]⟩, ⟨#[49, 76, 49, 44, 48, 82, 48, 59, 49, 82, 48, 44, 49, 76, 49]⟩, ⟨#[48, 76, 49, 44, 49, 82, 48, 59, 49, 82, 48, 44, 49, 76, 49]⟩, ⟨#[49, 82, 49, 44, 49, 82, 48, 59, 48, 76, 50, 44, 49, 82, 49, 59, 49, 82, 48, 44, 49, 76, 50]⟩, ⟨#[49, 76, 49, 44, 49, 82, 48, 59, 49, 82, 48, 44, 48, 76, 49]⟩, ⟨#[49, 76, 49, 44, 49, 82, 48, 59, 48, 82, 50, 44, 49, 76, 49, 59, 49, 82, 48, 44, 49, 82, 50]⟩, ⟨#[49, 82, 49, 44, 49, 76, 50, 59, 49, 76, 48, 44, 49, 82, 49, 59, 49, 82, 48, 44, 48, 76, 50]⟩]
theorem known27_ok : (known27.all fun x => parseOk x && !(parseM x).rules.isEmpty && decide ((parseM x).rules.length ≤ 600) && machOk (parseM x)) = true := by decide +kernel
set_option maxRecDepth 20000 in
set_option maxHeartbeats 2000000 in
theorem l27DrawMachine_c (B b n : Nat) (w : World) (h : Src B w b n) (hB : B ≤ w.heap.size) (hn : n ≤ 100000000) :
    Calls Tryz.prog 83 #[.pointer (some ⟨b, 0, none⟩)] w (MRes B w b n 600) := by
  have hbl := h.lt
  obtain ⟨W, hW⟩ : ∃ W, W = w.alloc (.cells #[.int .i64 0, .int .i64 0, .slice none 0 0] 26) := ⟨_, rfl⟩
  have hX : Ext w W := by rw [hW]; exact Ext.alloc _ _
  have bR : Blk W w.heap.size 26 #[.int .i64 0, .int .i64 0, .slice none 0 0] := by rw [hW]; exact Blk.new _ _ _ _ rfl
  have hsW := h.ext hX
  have HK := Lib.hid known27_ok
  go_enter Tryz.func83, Tryz.ntmps83
  go_wp2_with fail
  rw [← hW]
  clear hW
  refine (pick_c B b n 3 W hsW (by omega)).mono ?_
  rintro e w1 ⟨⟨q, rfl, q0, _, q2⟩, hs1, hg1⟩
  have hW1 : w.grownBy w1 (some b) := grownBy_trans (ext_grownBy hX _) hg1
  have b1 := blk_src hsW hg1 bR (by decide)
  have z1 := hW1.size
  generalize hg : w.heap.size = g at *
  have HG := Lib.hid hg
  clear hg
  by_cases hq : 0 < q
  · have hqd : decide (0 < q) = true := by simp [hq]
    obtain ⟨V, hV⟩ : ∃ V, V = w1.alloc (.cells (known27.map Value.string).toArray 9) := ⟨_, rfl⟩
    have hXV : Ext w1 V := by rw [hV]; exact Ext.alloc _ _
    have oL : OwnStrs w1.heap.size V (.slice (some ⟨w1.heap.size, 0, none⟩) 7 7) known27 := by
      refine ⟨rfl, .inr ⟨w1.heap.size, 7, (known27.map Value.string).toArray, rfl, Nat.le_refl _, ?_, Nat.le_refl _, by unfold maxLen; omega, rfl, rfl⟩⟩
      rw [hV]
      exact Blk.new _ _ _ _ rfl
    simp only [known27, List.map_cons, List.map_nil] at hV
    go_wp2_with fail
    rw [← hV]
    clear hV
    refine (text_c B w1.heap.size b _ _ known27 V (hs1.ext hXV) oL (by decide) (by omega)).mono ?_
    rintro e w2 ⟨⟨x, rfl, hx⟩, hs2, hg2⟩
    have hk := (List.all_eq_true.1 HK.out) x hx
    simp only [Bool.and_eq_true, Bool.not_eq_true', decide_eq_true_eq] at hk
    obtain ⟨⟨⟨hp, hne⟩, hle⟩, hmo⟩ := hk
    have HMO := Lib.hid hmo
    have HLE := Lib.hid hle
    have b2 := blk_src (hs1.ext hXV) hg2 (b1.ext hXV) (by decide)
    have HP := Lib.hid hp
    have HNE : Hid (0 < (parseM x).rules.length) := by
      unfold Hid
      cases hl : (parseM x).rules with
      | nil => rw [hl] at hne; simp at hne
      | cons _ _ => simp
    have hW2 : w.grownBy w2 (some b) := grownBy_trans (grownBy_trans hW1 (ext_grownBy hXV _)) hg2
    have z2 := hW2.size
    clear hp hne hx hle hmo oL
    go_wp2_with fail
    refine (l05Read_c x w2 HP.out).mono ?_
    rintro e w3 ⟨⟨rv, rfl, ho2⟩, hx3⟩
    generalize parseM x = m at *
    obtain ⟨A, c, rfl, k1, k2, _⟩ := (ownsRow_row ho2).form
    have b3 := b2.ext hx3
    have hlt3 := b3.lt
    have d := b3.cell
    have f := b3.frozen
    have hs3 := hs2.ext hx3
    go_wp2
    obtain ⟨r1, r2, r3⟩ := done3 hs3 (grownBy_trans hW2 (ext_grownBy hx3 _)) hB hbl HG.out ho2 b3 (.int .i64 m.sy) (.int .i64 m.st) (.slice A m.rules.length c)
    refine bodyPost_ret (v := .agg #[.int .i64 m.sy, .int .i64 m.st, .slice A m.rules.length c]) ?_ rfl ⟨⟨m, _, rfl, ?_, HNE.out, HLE.out, HMO.out⟩, (r1.ext (Ext.alloc _ _)).mono (by omega), grownBy_trans r2 (ext_grownBy (Ext.alloc _ _) _)⟩
    · have d' := ((((b3.set_ 0 (.int .i64 m.sy)).set_ 1 (.int .i64 m.st)).set_ 2 (.slice A m.rules.length c)).alloc (.cells #[.int .i64 m.sy, .int .i64 m.st, .slice A m.rules.length c] 26)).cell
      simp [results, Tryz.results83, go_sem, d']
    · have := r3.ext (Ext.alloc _ (.cells #[.int .i64 m.sy, .int .i64 m.st, .slice A m.rules.length c] 26))
      exact ownsRow_base this z2
  · have hqd : decide (0 < q) = false := by simp [hq]
    go_wp2_with fail
    refine (pick_c B b _ 2 w1 hs1 (by omega)).mono ?_
    rintro e w4 ⟨⟨y, rfl, y0, _, y2⟩, hs4, hg4⟩
    have y3 := y2 (by omega)
    have b4 := blk_src hs1 hg4 b1 (by decide)
    have hW4 := grownBy_trans hW1 hg4
    have z4 := hg4.size
    go_wp2_with fail
    refine (l05DrawSize_m B b _ 2 (2 + y) w4 hs4 (by omega) (by omega) (by omega) (by omega) (by omega) (by omega)).mono ?_
    rintro e w5 ⟨⟨m, rv, rfl, ho, hl⟩, hs5, hg5⟩
    have b5 := blk_src hs4 hg5 b4 (by decide)
    have d := b5.cell
    have f := b5.frozen
    obtain ⟨A, c, rfl, _, _, _⟩ := (ownsRow_row ho).form
    go_wp2
    refine bodyPost_ret (v := .agg #[.int .i64 m.sy, .int .i64 m.st, .slice A m.rules.length c]) ?_ rfl (MRes.of hs5 (by omega) (grownBy_trans hW4 hg5) hB hbl HG.out ho (by omega) b5 hl)
    simp [results, Tryz.results83, go_sem, d]
set_option maxRecDepth 20000 in
set_option maxHeartbeats 2000000 in
theorem l31DrawMachine_c (B b n : Nat) (w : World) (h : Src B w b n) (hB : B ≤ w.heap.size) (hn : n ≤ 10000000) :
    Calls Tryz.prog 44 #[.pointer (some ⟨b, 0, none⟩)] w (MRes B w b n 700) := by
  have hbl := h.lt
  obtain ⟨W, hW⟩ : ∃ W, W = w.alloc (.cells #[.int .i64 0, .int .i64 0, .slice none 0 0] 26) := ⟨_, rfl⟩
  have hX : Ext w W := by rw [hW]; exact Ext.alloc _ _
  have bR : Blk W w.heap.size 26 #[.int .i64 0, .int .i64 0, .slice none 0 0] := by rw [hW]; exact Blk.new _ _ _ _ rfl
  have hsW := h.ext hX
  go_enter Tryz.func44, Tryz.ntmps44
  go_wp2_with fail
  rw [← hW]
  clear hW
  refine (pick_c B b n 4 W hsW (by omega)).mono ?_
  rintro e w1 ⟨⟨q, rfl, q0, _, q2⟩, hs1, hg1⟩
  have q3 := q2 (by omega)
  have hW1 : w.grownBy w1 (some b) := grownBy_trans (ext_grownBy hX _) hg1
  have b1 := blk_src hsW hg1 bR (by decide)
  have z1 := hW1.size
  generalize hg : w.heap.size = g at *
  have HG := Lib.hid hg
  clear hg q2
  rcases (show q = 0 ∨ q = 1 ∨ q = 2 ∨ q = 3 by omega) with h0 | h1 | h2 | h3
  · subst h0
    go_wp2_with fail
    refine (l05Known_c B b (n + 2) w1 hs1 (by omega) (by omega)).mono ?_
    rintro e w2 ⟨⟨m, rv, rfl, ho, hl⟩, hs2, hg2⟩
    have b2 := blk_src hs1 hg2 b1 (by decide)
    have d := b2.cell
    have f := b2.frozen
    obtain ⟨A, c, rfl, _, _, _⟩ := (ownsRow_row ho).form
    go_wp2
    refine bodyPost_ret (v := .agg #[.int .i64 m.sy, .int .i64 m.st, .slice A m.rules.length c]) ?_ rfl (MRes.of hs2 (by omega) (grownBy_trans hW1 hg2) hB hbl HG.out ho (by omega) b2 hl)
    simp [results, Tryz.results44, go_sem, d]
  · subst h1
    go_wp2_with fail
    refine (l27DrawMachine_c B b (n + 2) w1 hs1 (by omega) (by omega)).mono ?_
    rintro e w2 ⟨⟨m, rv, rfl, ho, hl⟩, hs2, hg2⟩
    have b2 := blk_src hs1 hg2 b1 (by decide)
    have d := b2.cell
    have f := b2.frozen
    obtain ⟨A, c, rfl, _, _, _⟩ := (ownsRow_row ho).form
    go_wp2
    refine bodyPost_ret (v := .agg #[.int .i64 m.sy, .int .i64 m.st, .slice A m.rules.length c]) ?_ rfl (MRes.of hs2 (by omega) (grownBy_trans hW1 hg2) hB hbl HG.out ho (by omega) b2 hl)
    simp [results, Tryz.results44, go_sem, d]
  · subst h2
    go_wp2_with fail
    refine (l25DrawMachine_c B b (n + 2) w1 hs1 (by omega) (by omega)).mono ?_
    rintro e w2 ⟨⟨m, rv, rfl, ho, hl⟩, hs2, hg2⟩
    have b2 := blk_src hs1 hg2 b1 (by decide)
    have d := b2.cell
    have f := b2.frozen
    obtain ⟨A, c, rfl, _, _, _⟩ := (ownsRow_row ho).form
    go_wp2
    refine bodyPost_ret (v := .agg #[.int .i64 m.sy, .int .i64 m.st, .slice A m.rules.length c]) ?_ rfl (MRes.of hs2 (by omega) (grownBy_trans hW1 hg2) hB hbl HG.out ho (by omega) b2 hl)
    simp [results, Tryz.results44, go_sem, d]
  · subst h3
    go_wp2_with fail
    refine (pick_c B b _ 2 w1 hs1 (by omega)).mono ?_
    rintro e w4 ⟨⟨y, rfl, y0, _, y2⟩, hs4, hg4⟩
    have y3 := y2 (by omega)
    have b4 := blk_src hs1 hg4 b1 (by decide)
    have hW4 := grownBy_trans hW1 hg4
    have z4 := hg4.size
    go_wp2_with fail
    refine (l05DrawSize_m B b _ 2 (1 + y) w4 hs4 (by omega) (by omega) (by omega) (by omega) (by omega) (by omega)).mono ?_
    rintro e w5 ⟨⟨m, rv, rfl, ho, hl⟩, hs5, hg5⟩
    have b5 := blk_src hs4 hg5 b4 (by decide)
    have d := b5.cell
    have f := b5.frozen
    obtain ⟨A, c, rfl, _, _, _⟩ := (ownsRow_row ho).form
    go_wp2
    refine bodyPost_ret (v := .agg #[.int .i64 m.sy, .int .i64 m.st, .slice A m.rules.length c]) ?_ rfl (MRes.of hs5 (by omega) (grownBy_trans hW4 hg5) hB hbl HG.out ho (by omega) b5 hl)
    simp [results, Tryz.results44, go_sem, d]
set_option maxRecDepth 20000 in
theorem R8Runner_c (v : Value) (bs : List Int) (w : World) (h : Bytes w v bs) :
    Calls Tryz.prog 12 #[v] w fun e w' => (∃ (m : MachD) (rv : Value), e = .returned (.agg #[.int .i64 m.sy, .int .i64 m.st, rv]) ∧ machOk m = true ∧ m.rules.length ≤ 600 ∧ OwnRules w.heap.size w' rv m.rules) ∧ Ext w w' := by
  obtain ⟨W, hW⟩ : ∃ W, W = w.alloc (.cells #[.int .i64 0, .int .i64 0, .slice none 0 0] 26) := ⟨_, rfl⟩
  have hX : Ext w W := by rw [hW]; exact Ext.alloc _ _
  have bR : Blk W w.heap.size 26 #[.int .i64 0, .int .i64 0, .slice none 0 0] := by rw [hW]; exact Blk.new _ _ _ _ rfl
  have hWs : W.heap.size = w.heap.size + 1 := by rw [hW]; simp
  have HWS := Lib.hid hWs
  clear hWs
  go_enter Tryz.func12, Tryz.ntmps12
  go_wp2_with fail
  rw [← hW]
  clear hW
  refine (from_c v bs W (h.ext hX)).mono ?_
  rintro e w1 ⟨⟨b, rfl, hb, hs1⟩, hx1⟩
  have b1 := bR.ext hx1
  go_wp2_with fail
  refine (l31DrawMachine_c W.heap.size b 0 w1 hs1 hx1.size (by omega)).mono ?_
  rintro e w2 ⟨⟨m, rv, rfl, ho, hl⟩, hs2, hg2⟩
  have b2 := blk_src hs1 hg2 b1 (by decide)
  have d := b2.cell
  have f := b2.frozen
  obtain ⟨A, c, rfl, _, _, _⟩ := (ownsRow_row ho).form
  have hXX : Ext w w2 := (hX.trans hx1).grown hg2 (fun k hk => by injection hk with hk; have := HWS.out; omega)
  have hfar := own_far_blk ho b2 (by decide)
  have hge : w.heap.size ≤ w1.heap.size := (hX.trans hx1).size
  have HL := Lib.hid hl
  clear hl
  go_wp2
  refine bodyPost_ret (v := .agg #[.int .i64 m.sy, .int .i64 m.st, .slice A m.rules.length c]) ?_ rfl ⟨⟨m, _, rfl, HL.out.2.2, HL.out.2.1, ?_⟩, ?_⟩
  · simp [results, Tryz.results12, go_sem, d]
  · exact ownsRow_base (ownsRow_far (ownsRow_far (ownsRow_far ho hfar _) hfar _) hfar _) hge
  · exact ((hXX.setCell (Nat.le_refl _) _).setCell (Nat.le_refl _) _).setCell (Nat.le_refl _) _
end Go.Proofs.YtapjofbjedpmgaaGreat
end
section
set_option linter.unusedSimpArgs false
set_option linter.unusedVariables false
namespace Go.Proofs.YtapjofbjedpmgaaGreat
open Go Go.RowKit Go.Proofs
set_option maxHeartbeats 400000
/-- What is known of a found proof. -/
structure FndP (m : MachD) (s : SetsD) (p : ProofD) : Prop where
  ok : prfOk p = true
  sb : setsB p = true
  n4 : 4 ≤ p.ns.length
  sp : setsP p = s
  so : SetsOk s
  si : SetsIn m.sy m.st s
  cl : Closed m s
  chk : chkX m s = true
  gl : GoodL s.n s.l
  gr : GoodL s.n s.r
  gc : GoodL (2 * s.n + 2) s.c
  len : s.l.length ≤ 1000 ∧ s.r.length ≤ 1000 ∧ s.c.length ≤ 1000
theorem fndP {m : MachD} {s : SetsD} (hm : machOk m = true) (h0 : prfOk (proofX s) = true) (hO : SetsOk s) (hI : SetsIn m.sy m.st s) (hC : Closed m s) (r1 : riseB s.l = true) (r2 : riseB s.r = true) (r3 : riseB s.c = true) (l1 : s.l.length ≤ 300) (l2 : s.r.length ≤ 300) (l3 : s.c.length ≤ 300) : FndP m s (proofX s) := by
  obtain ⟨⟨s1, s2, s3, s4⟩, _, _⟩ := machOk_five hm
  have hz : 1 ≤ s.c.length := List.length_pos_of_mem hC.zc
  refine ⟨h0, setsB_proofX hO hI (by omega) s4 r1 r2 r3, ?_, setsP_proofX hO, hO, hI, hC, hC.chk hO hI, ⟨hO.l, fun x hx z hz => by have := hI.l x hx z hz; exact ⟨by omega, by omega⟩⟩, ⟨hO.r, fun x hx z hz => by have := hI.r x hx z hz; exact ⟨by omega, by omega⟩⟩, ⟨hO.c, fun x hx z hz => ?_⟩, by omega, by omega, by omega⟩
  · simp only [proofX, List.length_cons, List.length_map]
    omega
  · have h1 := hI.c x hx
    cases x with
    | nil => cases hz
    | cons a t =>
      rcases List.mem_cons.1 hz with rfl | hz
      · have := h1.1; simp at this; exact ⟨by omega, by omega⟩
      · have := h1.2 z hz; exact ⟨by omega, by omega⟩
theorem cov_next {m : MachD} {s : SetsD} {p : ProofD} {c : ConfD} (hm : machOk m = true) (h : FndP m s p) (hc : confB m c = true) (hcov : covX s c = true) :
    ¬ lookI m c = noR ∧ covX s (stepI (lookI m c) c) = true ∧ (fitI (stepI (lookI m c) c) = true → confB m (stepI (lookI m c) c) = true) := by
  obtain ⟨hg, _, ht⟩ := conf_good hc
  obtain ⟨h1, h2⟩ := cov_step hm h.so h.chk hg hcov
  exact ⟨h1, h2, fun hf => conf_back (hg.step hm h1) (by simpa [fitI] using hf) (tidy_step ht)⟩
end Go.Proofs.YtapjofbjedpmgaaGreat
end
