/- Contracts of the reference's draws of machines that are decided. Written by mkshh.py. -/
import Derived.Test.YtpdnmhhieokogaaDraw2
set_option linter.unusedSimpArgs false
set_option linter.unusedVariables false
namespace Go.Proofs.Ytpdnmhhieokogaa
open Go Go.RowKit Go.Proofs
set_option maxHeartbeats 400000
def known25 : List ByteArray := [⟨#[49, 82, 48, 44, 49, 82, 48]⟩, ⟨#[48, 82, 48, 44, 48, 82, 48]⟩, ⟨#[49, 76, 48, 44, 48, 82, 48]⟩, ⟨#[49, 82, 49, 44, 45, 45, 45, 59, 49, 76, 48, 44, 48, 82, 49]⟩, ⟨#[49, 82, 49, 44, 48, 76, 48, 59, 49, 76, 48, 44, 49, 82, 49]⟩, ⟨#[48, 76, 49, 44, 49, 82, 48, 59, 49, 82, 48, 44, 48, 76, 49]⟩, ⟨#[49, 82, 49, 44, 48, 82, 49, 59, 49, 76, 48, 44, 48, 76, 48]⟩, ⟨#[49, 76, 49, 44, 49, 76, 49, 59, 49, 82, 48, 44, 48, 82, 48]⟩, ⟨#[49, 82, 49, 44, 49, 76, 49, 59, 48, 76, 48, 44, 48, 82, 49]⟩]
theorem known25_ok : (known25.all fun x => parseOk x && !(parseM x).rules.isEmpty && decide ((parseM x).rules.length ≤ 600) && machOk (parseM x)) = true := by decide +kernel
set_option maxRecDepth 20000 in
set_option maxHeartbeats 2000000 in
theorem l25DrawMachine_c (B b n : Nat) (w : World) (h : Src B w b n) (hB : B ≤ w.heap.size) (hn : n ≤ 100000000) :
    Calls Try.prog 28 #[.pointer (some ⟨b, 0, none⟩)] w (MRes B w b n 600) := by
  have hbl := h.lt
  obtain ⟨W, hW⟩ : ∃ W, W = w.alloc (.cells #[.int .i64 0, .int .i64 0, .slice none 0 0] 26) := ⟨_, rfl⟩
  have hX : Ext w W := by rw [hW]; exact Ext.alloc _ _
  have bR : Blk W w.heap.size 26 #[.int .i64 0, .int .i64 0, .slice none 0 0] := by rw [hW]; exact Blk.new _ _ _ _ rfl
  have hsW := h.ext hX
  have HK := Lib.hid known25_ok
  go_enter Try.func28, Try.ntmps28
  go_wp2_with fail
  rw [← hW]
  clear hW
  refine (one_c B b n 3 W hsW (by omega)).mono ?_
  rintro e w1 ⟨⟨q, rfl⟩, hs1, hg1⟩
  have hW1 : w.grownBy w1 (some b) := grownBy_trans (ext_grownBy hX _) hg1
  have b1 := blk_src hsW hg1 bR (by decide)
  have z1 := hW1.size
  generalize hg : w.heap.size = g at *
  have HG := Lib.hid hg
  clear hg
  cases q with
  | true =>
    obtain ⟨V, hV⟩ : ∃ V, V = w1.alloc (.cells (known25.map Value.string).toArray 9) := ⟨_, rfl⟩
    have hXV : Ext w1 V := by rw [hV]; exact Ext.alloc _ _
    have oL : OwnStrs w1.heap.size V (.slice (some ⟨w1.heap.size, 0, none⟩) 9 9) known25 := by
      refine ⟨rfl, .inr ⟨w1.heap.size, 9, (known25.map Value.string).toArray, rfl, Nat.le_refl _, ?_, Nat.le_refl _, by unfold maxLen; omega, rfl, rfl⟩⟩
      rw [hV]
      exact Blk.new _ _ _ _ rfl
    simp only [known25, List.map_cons, List.map_nil] at hV
    go_wp2_with fail
    rw [← hV]
    clear hV
    refine (text_c B w1.heap.size b _ _ known25 V (hs1.ext hXV) oL (by decide) (by omega)).mono ?_
    rintro e w2 ⟨⟨x, rfl, hx⟩, hs2, hg2⟩
    have hk := (List.all_eq_true.1 HK.out) x hx
    simp only [Bool.and_eq_true, Bool.not_eq_true', decide_eq_true_eq] at hk
    obtain ⟨⟨⟨hp, hne⟩, hle⟩, hmo⟩ := hk
    have HMO := Lib.hid hmo
    have HLE := Lib.hid hle
    have b2 := blk_src (hs1.ext hXV) hg2 (b1.ext hXV) (by decide)
    have HP := Lib.hid hp
    have HNE : Hid (0 < (parseM x).rules.length) := by
      unfold Hid
      cases hl : (parseM x).rules with
      | nil => rw [hl] at hne; simp at hne
      | cons _ _ => simp
    have hW2 : w.grownBy w2 (some b) := grownBy_trans (grownBy_trans hW1 (ext_grownBy hXV _)) hg2
    have z2 := hW2.size
    clear hp hne hx hle hmo oL
    go_wp2_with fail
    refine (l05Read_c x w2 HP.out).mono ?_
    rintro e w3 ⟨⟨rv, rfl, ho2⟩, hx3⟩
    generalize parseM x = m at *
    obtain ⟨A, c, rfl, k1, k2, _⟩ := (ownsRow_row ho2).form
    have b3 := b2.ext hx3
    have hlt3 := b3.lt
    have d := b3.cell
    have f := b3.frozen
    have hs3 := hs2.ext hx3
    go_wp2
    obtain ⟨r1, r2, r3⟩ := done3 hs3 (grownBy_trans hW2 (ext_grownBy hx3 _)) hB hbl HG.out ho2 b3 (.int .i64 m.sy) (.int .i64 m.st) (.slice A m.rules.length c)
    refine bodyPost_ret (v := .agg #[.int .i64 m.sy, .int .i64 m.st, .slice A m.rules.length c]) ?_ rfl ⟨⟨m, _, rfl, ?_, HNE.out, HLE.out, HMO.out⟩, (r1.ext (Ext.alloc _ _)).mono (by omega), grownBy_trans r2 (ext_grownBy (Ext.alloc _ _) _)⟩
    · have d' := ((((b3.set_ 0 (.int .i64 m.sy)).set_ 1 (.int .i64 m.st)).set_ 2 (.slice A m.rules.length c)).alloc (.cells #[.int .i64 m.sy, .int .i64 m.st, .slice A m.rules.length c] 26)).cell
      simp [results, Try.results28, go_sem, d']
    · have := r3.ext (Ext.alloc _ (.cells #[.int .i64 m.sy, .int .i64 m.st, .slice A m.rules.length c] 26))
      exact ownsRow_base this z2
  | false =>
    go_wp2_with fail
    refine (pick_c B b _ 3 w1 hs1 (by omega)).mono ?_
    rintro e w4 ⟨⟨y, rfl, y0, _, y2⟩, hs4, hg4⟩
    have y3 := y2 (by omega)
    have b4 := blk_src hs1 hg4 b1 (by decide)
    have hW4 := grownBy_trans hW1 hg4
    have z4 := hg4.size
    go_wp2_with fail
    refine (l05DrawSize_m B b _ 2 (1 + y) w4 hs4 (by omega) (by omega) (by omega) (by omega) (by omega) (by omega)).mono ?_
    rintro e w5 ⟨⟨m, rv, rfl, ho, hl⟩, hs5, hg5⟩
    have b5 := blk_src hs4 hg5 b4 (by decide)
    have d := b5.cell
    have f := b5.frozen
    obtain ⟨A, c, rfl, _, _, _⟩ := (ownsRow_row ho).form
    go_wp2
    refine bodyPost_ret (v := .agg #[.int .i64 m.sy, .int .i64 m.st, .slice A m.rules.length c]) ?_ rfl (MRes.of hs5 (by omega) (grownBy_trans hW4 hg5) hB hbl HG.out ho (by omega) b5 hl)
    simp [results, Try.results28, go_sem, d]
def known27 : List ByteArray := [⟨#[49, 76, 49, 44, 49, 82, 48, 59, 49, 82, 48, 44, 49, 76, 49]⟩, ⟨#[49, 76, 49, 44, 48, 82, 48, 59, 49, 82, 48, 44, 49, 76, 49]⟩, ⟨#[48, 76, 49, 44, 49, 82, 48, 59, 49, 82, 48, 44, 49, 76, 49]⟩, ⟨#[49, 82, 49, 44, 49, 82, 48, 59, 48, 76, 50, 44, 49, 82, 49, 59, 49, 82, 48, 44, 49, 76, 50]⟩, ⟨#[49, 76, 49, 44, 49, 82, 48, 59, 49, 82, 48, 44, 48, 76, 49]⟩, ⟨#[49, 76, 49, 44, 49, 82, 48, 59, 48, 82, 50, 44, 49, 76, 49, 59, 49, 82, 48, 44, 49, 82, 50]⟩, ⟨#[49, 82, 49, 44, 49, 76, 50, 59, 49, 76, 48, 44, 49, 82, 49, 59, 49, 82, 48, 44, 48, 76, 50]⟩]
theorem known27_ok : (known27.all fun x => parseOk x && !(parseM x).rules.isEmpty && decide ((parseM x).rules.length ≤ 600) && machOk (parseM x)) = true := by decide +kernel
set_option maxRecDepth 20000 in
set_option maxHeartbeats 2000000 in
theorem l27DrawMachine_c (B b n : Nat) (w : World) (h : Src B w b n) (hB : B ≤ w.heap.size) (hn : n ≤ 100000000) :
    Calls Try.prog 27 #[.pointer (some ⟨b, 0, none⟩)] w (MRes B w b n 600) := by
  have hbl := h.lt
  obtain ⟨W, hW⟩ : ∃ W, W = w.alloc (.cells #[.int .i64 0, .int .i64 0, .slice none 0 0] 26) := ⟨_, rfl⟩
  have hX : Ext w W := by rw [hW]; exact Ext.alloc _ _
  have bR : Blk W w.heap.size 26 #[.int .i64 0, .int .i64 0, .slice none 0 0] := by rw [hW]; exact Blk.new _ _ _ _ rfl
  have hsW := h.ext hX
  have HK := Lib.hid known27_ok
  go_enter Try.func27, Try.ntmps27
  go_wp2_with fail
  rw [← hW]
  clear hW
  refine (pick_c B b n 3 W hsW (by omega)).mono ?_
  rintro e w1 ⟨⟨q, rfl, q0, _, q2⟩, hs1, hg1⟩
  have hW1 : w.grownBy w1 (some b) := grownBy_trans (ext_grownBy hX _) hg1
  have b1 := blk_src hsW hg1 bR (by decide)
  have z1 := hW1.size
  generalize hg : w.heap.size = g at *
  have HG := Lib.hid hg
  clear hg
  by_cases hq : 0 < q
  · have hqd : decide (0 < q) = true := by simp [hq]
    obtain ⟨V, hV⟩ : ∃ V, V = w1.alloc (.cells (known27.map Value.string).toArray 9) := ⟨_, rfl⟩
    have hXV : Ext w1 V := by rw [hV]; exact Ext.alloc _ _
    have oL : OwnStrs w1.heap.size V (.slice (some ⟨w1.heap.size, 0, none⟩) 7 7) known27 := by
      refine ⟨rfl, .inr ⟨w1.heap.size, 7, (known27.map Value.string).toArray, rfl, Nat.le_refl _, ?_, Nat.le_refl _, by unfold maxLen; omega, rfl, rfl⟩⟩
      rw [hV]
      exact Blk.new _ _ _ _ rfl
    simp only [known27, List.map_cons, List.map_nil] at hV
    go_wp2_with fail
    rw [← hV]
    clear hV
    refine (text_c B w1.heap.size b _ _ known27 V (hs1.ext hXV) oL (by decide) (by omega)).mono ?_
    rintro e w2 ⟨⟨x, rfl, hx⟩, hs2, hg2⟩
    have hk := (List.all_eq_true.1 HK.out) x hx
    simp only [Bool.and_eq_true, Bool.not_eq_true', decide_eq_true_eq] at hk
    obtain ⟨⟨⟨hp, hne⟩, hle⟩, hmo⟩ := hk
    have HMO := Lib.hid hmo
    have HLE := Lib.hid hle
    have b2 := blk_src (hs1.ext hXV) hg2 (b1.ext hXV) (by decide)
    have HP := Lib.hid hp
    have HNE : Hid (0 < (parseM x).rules.length) := by
      unfold Hid
      cases hl : (parseM x).rules with
      | nil => rw [hl] at hne; simp at hne
      | cons _ _ => simp
    have hW2 : w.grownBy w2 (some b) := grownBy_trans (grownBy_trans hW1 (ext_grownBy hXV _)) hg2
    have z2 := hW2.size
    clear hp hne hx hle hmo oL
    go_wp2_with fail
    refine (l05Read_c x w2 HP.out).mono ?_
    rintro e w3 ⟨⟨rv, rfl, ho2⟩, hx3⟩
    generalize parseM x = m at *
    obtain ⟨A, c, rfl, k1, k2, _⟩ := (ownsRow_row ho2).form
    have b3 := b2.ext hx3
    have hlt3 := b3.lt
    have d := b3.cell
    have f := b3.frozen
    have hs3 := hs2.ext hx3
    go_wp2
    obtain ⟨r1, r2, r3⟩ := done3 hs3 (grownBy_trans hW2 (ext_grownBy hx3 _)) hB hbl HG.out ho2 b3 (.int .i64 m.sy) (.int .i64 m.st) (.slice A m.rules.length c)
    refine bodyPost_ret (v := .agg #[.int .i64 m.sy, .int .i64 m.st, .slice A m.rules.length c]) ?_ rfl ⟨⟨m, _, rfl, ?_, HNE.out, HLE.out, HMO.out⟩, (r1.ext (Ext.alloc _ _)).mono (by omega), grownBy_trans r2 (ext_grownBy (Ext.alloc _ _) _)⟩
    · have d' := ((((b3.set_ 0 (.int .i64 m.sy)).set_ 1 (.int .i64 m.st)).set_ 2 (.slice A m.rules.length c)).alloc (.cells #[.int .i64 m.sy, .int .i64 m.st, .slice A m.rules.length c] 26)).cell
      simp [results, Try.results27, go_sem, d']
    · have := r3.ext (Ext.alloc _ (.cells #[.int .i64 m.sy, .int .i64 m.st, .slice A m.rules.length c] 26))
      exact ownsRow_base this z2
  · have hqd : decide (0 < q) = false := by simp [hq]
    go_wp2_with fail
    refine (pick_c B b _ 2 w1 hs1 (by omega)).mono ?_
    rintro e w4 ⟨⟨y, rfl, y0, _, y2⟩, hs4, hg4⟩
    have y3 := y2 (by omega)
    have b4 := blk_src hs1 hg4 b1 (by decide)
    have hW4 := grownBy_trans hW1 hg4
    have z4 := hg4.size
    go_wp2_with fail
    refine (l05DrawSize_m B b _ 2 (2 + y) w4 hs4 (by omega) (by omega) (by omega) (by omega) (by omega) (by omega)).mono ?_
    rintro e w5 ⟨⟨m, rv, rfl, ho, hl⟩, hs5, hg5⟩
    have b5 := blk_src hs4 hg5 b4 (by decide)
    have d := b5.cell
    have f := b5.frozen
    obtain ⟨A, c, rfl, _, _, _⟩ := (ownsRow_row ho).form
    go_wp2
    refine bodyPost_ret (v := .agg #[.int .i64 m.sy, .int .i64 m.st, .slice A m.rules.length c]) ?_ rfl (MRes.of hs5 (by omega) (grownBy_trans hW4 hg5) hB hbl HG.out ho (by omega) b5 hl)
    simp [results, Try.results27, go_sem, d]
set_option maxRecDepth 20000 in
set_option maxHeartbeats 2000000 in
theorem l31DrawMachine_c (B b n : Nat) (w : World) (h : Src B w b n) (hB : B ≤ w.heap.size) (hn : n ≤ 10000000) :
    Calls Try.prog 12 #[.pointer (some ⟨b, 0, none⟩)] w (MRes B w b n 700) := by
  have hbl := h.lt
  obtain ⟨W, hW⟩ : ∃ W, W = w.alloc (.cells #[.int .i64 0, .int .i64 0, .slice none 0 0] 26) := ⟨_, rfl⟩
  have hX : Ext w W := by rw [hW]; exact Ext.alloc _ _
  have bR : Blk W w.heap.size 26 #[.int .i64 0, .int .i64 0, .slice none 0 0] := by rw [hW]; exact Blk.new _ _ _ _ rfl
  have hsW := h.ext hX
  go_enter Try.func12, Try.ntmps12
  go_wp2_with fail
  rw [← hW]
  clear hW
  refine (pick_c B b n 4 W hsW (by omega)).mono ?_
  rintro e w1 ⟨⟨q, rfl, q0, _, q2⟩, hs1, hg1⟩
  have q3 := q2 (by omega)
  have hW1 : w.grownBy w1 (some b) := grownBy_trans (ext_grownBy hX _) hg1
  have b1 := blk_src hsW hg1 bR (by decide)
  have z1 := hW1.size
  generalize hg : w.heap.size = g at *
  have HG := Lib.hid hg
  clear hg q2
  rcases (show q = 0 ∨ q = 1 ∨ q = 2 ∨ q = 3 by omega) with h0 | h1 | h2 | h3
  · subst h0
    go_wp2_with fail
    refine (l05Known_c B b (n + 2) w1 hs1 (by omega) (by omega)).mono ?_
    rintro e w2 ⟨⟨m, rv, rfl, ho, hl⟩, hs2, hg2⟩
    have b2 := blk_src hs1 hg2 b1 (by decide)
    have d := b2.cell
    have f := b2.frozen
    obtain ⟨A, c, rfl, _, _, _⟩ := (ownsRow_row ho).form
    go_wp2
    refine bodyPost_ret (v := .agg #[.int .i64 m.sy, .int .i64 m.st, .slice A m.rules.length c]) ?_ rfl (MRes.of hs2 (by omega) (grownBy_trans hW1 hg2) hB hbl HG.out ho (by omega) b2 hl)
    simp [results, Try.results12, go_sem, d]
  · subst h1
    go_wp2_with fail
    refine (l27DrawMachine_c B b (n + 2) w1 hs1 (by omega) (by omega)).mono ?_
    rintro e w2 ⟨⟨m, rv, rfl, ho, hl⟩, hs2, hg2⟩
    have b2 := blk_src hs1 hg2 b1 (by decide)
    have d := b2.cell
    have f := b2.frozen
    obtain ⟨A, c, rfl, _, _, _⟩ := (ownsRow_row ho).form
    go_wp2
    refine bodyPost_ret (v := .agg #[.int .i64 m.sy, .int .i64 m.st, .slice A m.rules.length c]) ?_ rfl (MRes.of hs2 (by omega) (grownBy_trans hW1 hg2) hB hbl HG.out ho (by omega) b2 hl)
    simp [results, Try.results12, go_sem, d]
  · subst h2
    go_wp2_with fail
    refine (l25DrawMachine_c B b (n + 2) w1 hs1 (by omega) (by omega)).mono ?_
    rintro e w2 ⟨⟨m, rv, rfl, ho, hl⟩, hs2, hg2⟩
    have b2 := blk_src hs1 hg2 b1 (by decide)
    have d := b2.cell
    have f := b2.frozen
    obtain ⟨A, c, rfl, _, _, _⟩ := (ownsRow_row ho).form
    go_wp2
    refine bodyPost_ret (v := .agg #[.int .i64 m.sy, .int .i64 m.st, .slice A m.rules.length c]) ?_ rfl (MRes.of hs2 (by omega) (grownBy_trans hW1 hg2) hB hbl HG.out ho (by omega) b2 hl)
    simp [results, Try.results12, go_sem, d]
  · subst h3
    go_wp2_with fail
    refine (pick_c B b _ 2 w1 hs1 (by omega)).mono ?_
    rintro e w4 ⟨⟨y, rfl, y0, _, y2⟩, hs4, hg4⟩
    have y3 := y2 (by omega)
    have b4 := blk_src hs1 hg4 b1 (by decide)
    have hW4 := grownBy_trans hW1 hg4
    have z4 := hg4.size
    go_wp2_with fail
    refine (l05DrawSize_m B b _ 2 (1 + y) w4 hs4 (by omega) (by omega) (by omega) (by omega) (by omega) (by omega)).mono ?_
    rintro e w5 ⟨⟨m, rv, rfl, ho, hl⟩, hs5, hg5⟩
    have b5 := blk_src hs4 hg5 b4 (by decide)
    have d := b5.cell
    have f := b5.frozen
    obtain ⟨A, c, rfl, _, _, _⟩ := (ownsRow_row ho).form
    go_wp2
    refine bodyPost_ret (v := .agg #[.int .i64 m.sy, .int .i64 m.st, .slice A m.rules.length c]) ?_ rfl (MRes.of hs5 (by omega) (grownBy_trans hW4 hg5) hB hbl HG.out ho (by omega) b5 hl)
    simp [results, Try.results12, go_sem, d]
set_option maxRecDepth 20000 in
theorem R8Runner_c (v : Value) (bs : List Int) (w : World) (h : Bytes w v bs) :
    Calls Try.prog 5 #[v] w fun e w' => (∃ (m : MachD) (rv : Value), e = .returned (.agg #[.int .i64 m.sy, .int .i64 m.st, rv]) ∧ machOk m = true ∧ m.rules.length ≤ 600 ∧ OwnRules w.heap.size w' rv m.rules) ∧ Ext w w' := by
  obtain ⟨W, hW⟩ : ∃ W, W = w.alloc (.cells #[.int .i64 0, .int .i64 0, .slice none 0 0] 26) := ⟨_, rfl⟩
  have hX : Ext w W := by rw [hW]; exact Ext.alloc _ _
  have bR : Blk W w.heap.size 26 #[.int .i64 0, .int .i64 0, .slice none 0 0] := by rw [hW]; exact Blk.new _ _ _ _ rfl
  have hWs : W.heap.size = w.heap.size + 1 := by rw [hW]; simp
  have HWS := Lib.hid hWs
  clear hWs
  go_enter Try.func5, Try.ntmps5
  go_wp2_with fail
  rw [← hW]
  clear hW
  refine (from_c v bs W (h.ext hX)).mono ?_
  rintro e w1 ⟨⟨b, rfl, hb, hs1⟩, hx1⟩
  have b1 := bR.ext hx1
  go_wp2_with fail
  refine (l31DrawMachine_c W.heap.size b 0 w1 hs1 hx1.size (by omega)).mono ?_
  rintro e w2 ⟨⟨m, rv, rfl, ho, hl⟩, hs2, hg2⟩
  have b2 := blk_src hs1 hg2 b1 (by decide)
  have d := b2.cell
  have f := b2.frozen
  obtain ⟨A, c, rfl, _, _, _⟩ := (ownsRow_row ho).form
  have hXX : Ext w w2 := (hX.trans hx1).grown hg2 (fun k hk => by injection hk with hk; have := HWS.out; omega)
  have hfar := own_far_blk ho b2 (by decide)
  have hge : w.heap.size ≤ w1.heap.size := (hX.trans hx1).size
  have HL := Lib.hid hl
  clear hl
  go_wp2
  refine bodyPost_ret (v := .agg #[.int .i64 m.sy, .int .i64 m.st, .slice A m.rules.length c]) ?_ rfl ⟨⟨m, _, rfl, HL.out.2.2, HL.out.2.1, ?_⟩, ?_⟩
  · simp [results, Try.results5, go_sem, d]
  · exact ownsRow_base (ownsRow_far (ownsRow_far (ownsRow_far ho hfar _) hfar _) hfar _) hge
  · exact ((hXX.setCell (Nat.le_refl _) _).setCell (Nat.le_refl _) _).setCell (Nat.le_refl _) _
end Go.Proofs.Ytpdnmhhieokogaa
