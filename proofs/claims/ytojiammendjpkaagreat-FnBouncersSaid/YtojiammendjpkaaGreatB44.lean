/- Contracts of the reference's draws of machines that are decided. Written by mkshh.py.
Contracts of the law's blank configuration and of its runs of so many steps.
The walk of the law on bouncers. Written by mklaw24.py. -/
import Derived.Test.YtojiammendjpkaaGreatB07
import Derived.Test.YtojiammendjpkaaGreatB35
import Derived.Test.YtojiammendjpkaaGreatB41
import Derived.Test.YtojiammendjpkaaGreatB42
import Derived.Test.YtojiammendjpkaaGreatB43
import Derived.Test.YtojiammendjpkaaGreatB21
section
set_option linter.unusedSimpArgs false
set_option linter.unusedVariables false
namespace Go.Proofs.YtojiammendjpkaaGreat
open Go Go.RowKit Go.Proofs
set_option maxHeartbeats 400000
def known25 : List ByteArray := [⟨#[49, 82, 48, 44, 49, 82, 48]⟩, ⟨#[48, 82, 48, 44, 48, 82, 48]⟩, ⟨#[49, 76, 48, 44, 48, 82, 48]⟩, ⟨#[49, 82, 49, 44, 45, 45, 45, 59, 49, 76, 48, 44, 48, 82, 49]⟩, ⟨#[49, 82, 49, 44, 48, 76, 48, 59, 49, 76, 48, 44, 49, 82, 49]⟩, ⟨#[48, 76, 49, 44, 49, 82, 48, 59, 49, 82, 48, 44, 48, 76, 49]⟩, ⟨#[49, 82, 49, 44, 48, 82, 49, 59, 49, 76, 48, 44, 48, 76, 48]⟩, ⟨#[49, 76, 49, 44, 49, 76, 49, 59, 49, 82, 48, 44, 48, 82, 48]⟩, ⟨#[49, 82, 49, 44, 49, 76, 49, 59, 48, 76, 48, 44, 48, 82, 49]⟩]
theorem known25_ok : (known25.all fun x => parseOk x && !(parseM x).rules.isEmpty && decide ((parseM x).rules.length ≤ 600) && machOk (parseM x)) = true := by decide +kernel
set_option maxRecDepth 20000 in
set_option maxHeartbeats 2000000 in
theorem l25DrawMachine_c (B b n : Nat) (w : World) (h : Src B w b n) (hB : B ≤ w.heap.size) (hn : n ≤ 100000000) :
    Calls Tryz.prog 108 #[.pointer (some ⟨b, 0, none⟩)] w (MRes B w b n 600) := by
  have hbl := h.lt
  obtain ⟨W, hW⟩ : ∃ W, W = w.alloc (.cells #[.int .i64 0, .int .i64 0, .slice none 0 0] 26) := ⟨_, rfl⟩
  have hX : Ext w W := by rw [hW]; exact Ext.alloc _ _
  have bR : Blk W w.heap.size 26 #[.int .i64 0, .int .i64 0, .slice none 0 0] := by rw [hW]; exact Blk.new _ _ _ _ rfl
  have hsW := h.ext hX
  have HK := Lib.hid known25_ok
  go_enter Tryz.func108, Tryz.ntmps108
  go_wp2_with fail
  rw [← hW]
  clear hW
  refine (one_c B b n 3 W hsW (by omega)).mono ?_
  rintro e w1 ⟨⟨q, rfl⟩, hs1, hg1⟩
  have hW1 : w.grownBy w1 (some b) := grownBy_trans (ext_grownBy hX _) hg1
  have b1 := blk_src hsW hg1 bR (by decide)
  have z1 := hW1.size
  generalize hg : w.heap.size = g at *
  have HG := Lib.hid hg
  clear hg
  cases q with
  | true =>
    obtain ⟨V, hV⟩ : ∃ V, V = w1.alloc (.cells (known25.map Value.string).toArray 9) := ⟨_, rfl⟩
    have hXV : Ext w1 V := by rw [hV]; exact Ext.alloc _ _
    have oL : OwnStrs w1.heap.size V (.slice (some ⟨w1.heap.size, 0, none⟩) 9 9) known25 := by
      refine ⟨rfl, .inr ⟨w1.heap.size, 9, (known25.map Value.string).toArray, rfl, Nat.le_refl _, ?_, Nat.le_refl _, by unfold maxLen; omega, rfl, rfl⟩⟩
      rw [hV]
      exact Blk.new _ _ _ _ rfl
    simp only [known25, List.map_cons, List.map_nil] at hV
    go_wp2_with fail
    rw [← hV]
    clear hV
    refine (text_c B w1.heap.size b _ _ known25 V (hs1.ext hXV) oL (by decide) (by omega)).mono ?_
    rintro e w2 ⟨⟨x, rfl, hx⟩, hs2, hg2⟩
    have hk := (List.all_eq_true.1 HK.out) x hx
    simp only [Bool.and_eq_true, Bool.not_eq_true', decide_eq_true_eq] at hk
    obtain ⟨⟨⟨hp, hne⟩, hle⟩, hmo⟩ := hk
    have HMO := Lib.hid hmo
    have HLE := Lib.hid hle
    have b2 := blk_src (hs1.ext hXV) hg2 (b1.ext hXV) (by decide)
    have HP := Lib.hid hp
    have HNE : Hid (0 < (parseM x).rules.length) := by
      unfold Hid
      cases hl : (parseM x).rules with
      | nil => rw [hl] at hne; simp at hne
      | cons _ _ => simp
    have hW2 : w.grownBy w2 (some b) := grownBy_trans (grownBy_trans hW1 (ext_grownBy hXV _)) hg2
    have z2 := hW2.size
    clear hp hne hx hle hmo oL
    go_wp2_with fail
    refine (l05Read_c x w2 HP.out).mono ?_
    rintro e w3 ⟨⟨rv, rfl, ho2⟩, hx3⟩
    generalize parseM x = m at *
    obtain ⟨A, c, rfl, k1, k2, _⟩ := (ownsRow_row ho2).form
    have b3 := b2.ext hx3
    have hlt3 := b3.lt
    have d := b3.cell
    have f := b3.frozen
    have hs3 := hs2.ext hx3
    go_wp2
    obtain ⟨r1, r2, r3⟩ := done3 hs3 (grownBy_trans hW2 (ext_grownBy hx3 _)) hB hbl HG.out ho2 b3 (.int .i64 m.sy) (.int .i64 m.st) (.slice A m.rules.length c)
    refine bodyPost_ret (v := .agg #[.int .i64 m.sy, .int .i64 m.st, .slice A m.rules.length c]) ?_ rfl ⟨⟨m, _, rfl, ?_, HNE.out, HLE.out, HMO.out⟩, (r1.ext (Ext.alloc _ _)).mono (by omega), grownBy_trans r2 (ext_grownBy (Ext.alloc _ _) _)⟩
    · have d' := ((((b3.set_ 0 (.int .i64 m.sy)).set_ 1 (.int .i64 m.st)).set_ 2 (.slice A m.rules.length c)).alloc (.cells #[.int .i64 m.sy, .int .i64 m.st, .slice A m.rules.length c] 26)).cell
      simp [results, Tryz.results108, go_sem, d']
    · have := r3.ext (Ext.alloc _ (.cells #[.int .i64 m.sy, .int .i64 m.st, .slice A m.rules.length c] 26))
      exact ownsRow_base this z2
  | false =>
    go_wp2_with fail
    refine (pick_c B b _ 3 w1 hs1 (by omega)).mono ?_
    rintro e w4 ⟨⟨y, rfl, y0, _, y2⟩, hs4, hg4⟩
    have y3 := y2 (by omega)
    have b4 := blk_src hs1 hg4 b1 (by decide)
    have hW4 := grownBy_trans hW1 hg4
    have z4 := hg4.size
    go_wp2_with fail
    refine (l05DrawSize_m B b _ 2 (1 + y) w4 hs4 (by omega) (by omega) (by omega) (by omega) (by omega) (by omega)).mono ?_
    rintro e w5 ⟨⟨m, rv, rfl, ho, hl⟩, hs5, hg5⟩
    have b5 := blk_src hs4 hg5 b4 (by decide)
    have d := b5.cell
    have f := b5.frozen
    obtain ⟨A, c, rfl, _, _, _⟩ := (ownsRow_row ho).form
    go_wp2
    refine bodyPost_ret (v := .agg #[.int .i64 m.sy, .int .i64 m.st, .slice A m.rules.length c]) ?_ rfl (MRes.of hs5 (by omega) (grownBy_trans hW4 hg5) hB hbl HG.out ho (by omega) b5 hl)
    simp [results, Tryz.results108, go_sem, d]
def known27 : List ByteArray := [⟨#[49, 76, 49, 44, 49, 82, 48, 59, 49, 82, 48, 44, 49, 76, 49]⟩, ⟨#[49, 76, 49, 44, 48, 82, 48, 59, 49, 82, 48, 44, 49, 76, 49]⟩, ⟨#[48, 76, 49, 44, 49, 82, 48, 59, 49, 82, 48, 44, 49, 76, 49]⟩, ⟨#[49, 82, 49, 44, 49, 82, 48, 59, 48, 76, 50, 44, 49, 82, 49, 59, 49, 82, 48, 44, 49, 76, 50]⟩, ⟨#[49, 76, 49, 44, 49, 82, 48, 59, 49, 82, 48, 44, 48, 76, 49]⟩, ⟨#[49, 76, 49, 44, 49, 82, 48, 59, 48, 82, 50, 44, 49, 76, 49, 59, 49, 82, 48, 44, 49, 82, 50]⟩, ⟨#[49, 82, 49, 44, 49, 76, 50, 59, 49, 76, 48, 44, 49, 82, 49, 59, 49, 82, 48, 44, 48, 76, 50]⟩]
theorem known27_ok : (known27.all fun x => parseOk x && !(parseM x).rules.isEmpty && decide ((parseM x).rules.length ≤ 600) && machOk (parseM x)) = true := by decide +kernel
set_option maxRecDepth 20000 in
set_option maxHeartbeats 2000000 in
theorem l27DrawMachine_c (B b n : Nat) (w : World) (h : Src B w b n) (hB : B ≤ w.heap.size) (hn : n ≤ 100000000) :
    Calls Tryz.prog 107 #[.pointer (some ⟨b, 0, none⟩)] w (MRes B w b n 600) := by
  have hbl := h.lt
  obtain ⟨W, hW⟩ : ∃ W, W = w.alloc (.cells #[.int .i64 0, .int .i64 0, .slice none 0 0] 26) := ⟨_, rfl⟩
  have hX : Ext w W := by rw [hW]; exact Ext.alloc _ _
  have bR : Blk W w.heap.size 26 #[.int .i64 0, .int .i64 0, .slice none 0 0] := by rw [hW]; exact Blk.new _ _ _ _ rfl
  have hsW := h.ext hX
  have HK := Lib.hid known27_ok
  go_enter Tryz.func107, Tryz.ntmps107
  go_wp2_with fail
  rw [← hW]
  clear hW
  refine (pick_c B b n 3 W hsW (by omega)).mono ?_
  rintro e w1 ⟨⟨q, rfl, q0, _, q2⟩, hs1, hg1⟩
  have hW1 : w.grownBy w1 (some b) := grownBy_trans (ext_grownBy hX _) hg1
  have b1 := blk_src hsW hg1 bR (by decide)
  have z1 := hW1.size
  generalize hg : w.heap.size = g at *
  have HG := Lib.hid hg
  clear hg
  by_cases hq : 0 < q
  · have hqd : decide (0 < q) = true := by simp [hq]
    obtain ⟨V, hV⟩ : ∃ V, V = w1.alloc (.cells (known27.map Value.string).toArray 9) := ⟨_, rfl⟩
    have hXV : Ext w1 V := by rw [hV]; exact Ext.alloc _ _
    have oL : OwnStrs w1.heap.size V (.slice (some ⟨w1.heap.size, 0, none⟩) 7 7) known27 := by
      refine ⟨rfl, .inr ⟨w1.heap.size, 7, (known27.map Value.string).toArray, rfl, Nat.le_refl _, ?_, Nat.le_refl _, by unfold maxLen; omega, rfl, rfl⟩⟩
      rw [hV]
      exact Blk.new _ _ _ _ rfl
    simp only [known27, List.map_cons, List.map_nil] at hV
    go_wp2_with fail
    rw [← hV]
    clear hV
    refine (text_c B w1.heap.size b _ _ known27 V (hs1.ext hXV) oL (by decide) (by omega)).mono ?_
    rintro e w2 ⟨⟨x, rfl, hx⟩, hs2, hg2⟩
    have hk := (List.all_eq_true.1 HK.out) x hx
    simp only [Bool.and_eq_true, Bool.not_eq_true', decide_eq_true_eq] at hk
    obtain ⟨⟨⟨hp, hne⟩, hle⟩, hmo⟩ := hk
    have HMO := Lib.hid hmo
    have HLE := Lib.hid hle
    have b2 := blk_src (hs1.ext hXV) hg2 (b1.ext hXV) (by decide)
    have HP := Lib.hid hp
    have HNE : Hid (0 < (parseM x).rules.length) := by
      unfold Hid
      cases hl : (parseM x).rules with
      | nil => rw [hl] at hne; simp at hne
      | cons _ _ => simp
    have hW2 : w.grownBy w2 (some b) := grownBy_trans (grownBy_trans hW1 (ext_grownBy hXV _)) hg2
    have z2 := hW2.size
    clear hp hne hx hle hmo oL
    go_wp2_with fail
    refine (l05Read_c x w2 HP.out).mono ?_
    rintro e w3 ⟨⟨rv, rfl, ho2⟩, hx3⟩
    generalize parseM x = m at *
    obtain ⟨A, c, rfl, k1, k2, _⟩ := (ownsRow_row ho2).form
    have b3 := b2.ext hx3
    have hlt3 := b3.lt
    have d := b3.cell
    have f := b3.frozen
    have hs3 := hs2.ext hx3
    go_wp2
    obtain ⟨r1, r2, r3⟩ := done3 hs3 (grownBy_trans hW2 (ext_grownBy hx3 _)) hB hbl HG.out ho2 b3 (.int .i64 m.sy) (.int .i64 m.st) (.slice A m.rules.length c)
    refine bodyPost_ret (v := .agg #[.int .i64 m.sy, .int .i64 m.st, .slice A m.rules.length c]) ?_ rfl ⟨⟨m, _, rfl, ?_, HNE.out, HLE.out, HMO.out⟩, (r1.ext (Ext.alloc _ _)).mono (by omega), grownBy_trans r2 (ext_grownBy (Ext.alloc _ _) _)⟩
    · have d' := ((((b3.set_ 0 (.int .i64 m.sy)).set_ 1 (.int .i64 m.st)).set_ 2 (.slice A m.rules.length c)).alloc (.cells #[.int .i64 m.sy, .int .i64 m.st, .slice A m.rules.length c] 26)).cell
      simp [results, Tryz.results107, go_sem, d']
    · have := r3.ext (Ext.alloc _ (.cells #[.int .i64 m.sy, .int .i64 m.st, .slice A m.rules.length c] 26))
      exact ownsRow_base this z2
  · have hqd : decide (0 < q) = false := by simp [hq]
    go_wp2_with fail
    refine (pick_c B b _ 2 w1 hs1 (by omega)).mono ?_
    rintro e w4 ⟨⟨y, rfl, y0, _, y2⟩, hs4, hg4⟩
    have y3 := y2 (by omega)
    have b4 := blk_src hs1 hg4 b1 (by decide)
    have hW4 := grownBy_trans hW1 hg4
    have z4 := hg4.size
    go_wp2_with fail
    refine (l05DrawSize_m B b _ 2 (2 + y) w4 hs4 (by omega) (by omega) (by omega) (by omega) (by omega) (by omega)).mono ?_
    rintro e w5 ⟨⟨m, rv, rfl, ho, hl⟩, hs5, hg5⟩
    have b5 := blk_src hs4 hg5 b4 (by decide)
    have d := b5.cell
    have f := b5.frozen
    obtain ⟨A, c, rfl, _, _, _⟩ := (ownsRow_row ho).form
    go_wp2
    refine bodyPost_ret (v := .agg #[.int .i64 m.sy, .int .i64 m.st, .slice A m.rules.length c]) ?_ rfl (MRes.of hs5 (by omega) (grownBy_trans hW4 hg5) hB hbl HG.out ho (by omega) b5 hl)
    simp [results, Tryz.results107, go_sem, d]
set_option maxRecDepth 20000 in
set_option maxHeartbeats 2000000 in
theorem l31DrawMachine_c (B b n : Nat) (w : World) (h : Src B w b n) (hB : B ≤ w.heap.size) (hn : n ≤ 10000000) :
    Calls Tryz.prog 53 #[.pointer (some ⟨b, 0, none⟩)] w (MRes B w b n 700) := by
  have hbl := h.lt
  obtain ⟨W, hW⟩ : ∃ W, W = w.alloc (.cells #[.int .i64 0, .int .i64 0, .slice none 0 0] 26) := ⟨_, rfl⟩
  have hX : Ext w W := by rw [hW]; exact Ext.alloc _ _
  have bR : Blk W w.heap.size 26 #[.int .i64 0, .int .i64 0, .slice none 0 0] := by rw [hW]; exact Blk.new _ _ _ _ rfl
  have hsW := h.ext hX
  go_enter Tryz.func53, Tryz.ntmps53
  go_wp2_with fail
  rw [← hW]
  clear hW
  refine (pick_c B b n 4 W hsW (by omega)).mono ?_
  rintro e w1 ⟨⟨q, rfl, q0, _, q2⟩, hs1, hg1⟩
  have q3 := q2 (by omega)
  have hW1 : w.grownBy w1 (some b) := grownBy_trans (ext_grownBy hX _) hg1
  have b1 := blk_src hsW hg1 bR (by decide)
  have z1 := hW1.size
  generalize hg : w.heap.size = g at *
  have HG := Lib.hid hg
  clear hg q2
  rcases (show q = 0 ∨ q = 1 ∨ q = 2 ∨ q = 3 by omega) with h0 | h1 | h2 | h3
  · subst h0
    go_wp2_with fail
    refine (l05Known_c B b (n + 2) w1 hs1 (by omega) (by omega)).mono ?_
    rintro e w2 ⟨⟨m, rv, rfl, ho, hl⟩, hs2, hg2⟩
    have b2 := blk_src hs1 hg2 b1 (by decide)
    have d := b2.cell
    have f := b2.frozen
    obtain ⟨A, c, rfl, _, _, _⟩ := (ownsRow_row ho).form
    go_wp2
    refine bodyPost_ret (v := .agg #[.int .i64 m.sy, .int .i64 m.st, .slice A m.rules.length c]) ?_ rfl (MRes.of hs2 (by omega) (grownBy_trans hW1 hg2) hB hbl HG.out ho (by omega) b2 hl)
    simp [results, Tryz.results53, go_sem, d]
  · subst h1
    go_wp2_with fail
    refine (l27DrawMachine_c B b (n + 2) w1 hs1 (by omega) (by omega)).mono ?_
    rintro e w2 ⟨⟨m, rv, rfl, ho, hl⟩, hs2, hg2⟩
    have b2 := blk_src hs1 hg2 b1 (by decide)
    have d := b2.cell
    have f := b2.frozen
    obtain ⟨A, c, rfl, _, _, _⟩ := (ownsRow_row ho).form
    go_wp2
    refine bodyPost_ret (v := .agg #[.int .i64 m.sy, .int .i64 m.st, .slice A m.rules.length c]) ?_ rfl (MRes.of hs2 (by omega) (grownBy_trans hW1 hg2) hB hbl HG.out ho (by omega) b2 hl)
    simp [results, Tryz.results53, go_sem, d]
  · subst h2
    go_wp2_with fail
    refine (l25DrawMachine_c B b (n + 2) w1 hs1 (by omega) (by omega)).mono ?_
    rintro e w2 ⟨⟨m, rv, rfl, ho, hl⟩, hs2, hg2⟩
    have b2 := blk_src hs1 hg2 b1 (by decide)
    have d := b2.cell
    have f := b2.frozen
    obtain ⟨A, c, rfl, _, _, _⟩ := (ownsRow_row ho).form
    go_wp2
    refine bodyPost_ret (v := .agg #[.int .i64 m.sy, .int .i64 m.st, .slice A m.rules.length c]) ?_ rfl (MRes.of hs2 (by omega) (grownBy_trans hW1 hg2) hB hbl HG.out ho (by omega) b2 hl)
    simp [results, Tryz.results53, go_sem, d]
  · subst h3
    go_wp2_with fail
    refine (pick_c B b _ 2 w1 hs1 (by omega)).mono ?_
    rintro e w4 ⟨⟨y, rfl, y0, _, y2⟩, hs4, hg4⟩
    have y3 := y2 (by omega)
    have b4 := blk_src hs1 hg4 b1 (by decide)
    have hW4 := grownBy_trans hW1 hg4
    have z4 := hg4.size
    go_wp2_with fail
    refine (l05DrawSize_m B b _ 2 (1 + y) w4 hs4 (by omega) (by omega) (by omega) (by omega) (by omega) (by omega)).mono ?_
    rintro e w5 ⟨⟨m, rv, rfl, ho, hl⟩, hs5, hg5⟩
    have b5 := blk_src hs4 hg5 b4 (by decide)
    have d := b5.cell
    have f := b5.frozen
    obtain ⟨A, c, rfl, _, _, _⟩ := (ownsRow_row ho).form
    go_wp2
    refine bodyPost_ret (v := .agg #[.int .i64 m.sy, .int .i64 m.st, .slice A m.rules.length c]) ?_ rfl (MRes.of hs5 (by omega) (grownBy_trans hW4 hg5) hB hbl HG.out ho (by omega) b5 hl)
    simp [results, Tryz.results53, go_sem, d]
set_option maxRecDepth 20000 in
theorem R8Runner_c (v : Value) (bs : List Int) (w : World) (h : Bytes w v bs) :
    Calls Tryz.prog 13 #[v] w fun e w' => (∃ (m : MachD) (rv : Value), e = .returned (.agg #[.int .i64 m.sy, .int .i64 m.st, rv]) ∧ machOk m = true ∧ m.rules.length ≤ 600 ∧ OwnRules w.heap.size w' rv m.rules) ∧ Ext w w' := by
  obtain ⟨W, hW⟩ : ∃ W, W = w.alloc (.cells #[.int .i64 0, .int .i64 0, .slice none 0 0] 26) := ⟨_, rfl⟩
  have hX : Ext w W := by rw [hW]; exact Ext.alloc _ _
  have bR : Blk W w.heap.size 26 #[.int .i64 0, .int .i64 0, .slice none 0 0] := by rw [hW]; exact Blk.new _ _ _ _ rfl
  have hWs : W.heap.size = w.heap.size + 1 := by rw [hW]; simp
  have HWS := Lib.hid hWs
  clear hWs
  go_enter Tryz.func13, Tryz.ntmps13
  go_wp2_with fail
  rw [← hW]
  clear hW
  refine (from_c v bs W (h.ext hX)).mono ?_
  rintro e w1 ⟨⟨b, rfl, hb, hs1⟩, hx1⟩
  have b1 := bR.ext hx1
  go_wp2_with fail
  refine (l31DrawMachine_c W.heap.size b 0 w1 hs1 hx1.size (by omega)).mono ?_
  rintro e w2 ⟨⟨m, rv, rfl, ho, hl⟩, hs2, hg2⟩
  have b2 := blk_src hs1 hg2 b1 (by decide)
  have d := b2.cell
  have f := b2.frozen
  obtain ⟨A, c, rfl, _, _, _⟩ := (ownsRow_row ho).form
  have hXX : Ext w w2 := (hX.trans hx1).grown hg2 (fun k hk => by injection hk with hk; have := HWS.out; omega)
  have hfar := own_far_blk ho b2 (by decide)
  have hge : w.heap.size ≤ w1.heap.size := (hX.trans hx1).size
  have HL := Lib.hid hl
  clear hl
  go_wp2
  refine bodyPost_ret (v := .agg #[.int .i64 m.sy, .int .i64 m.st, .slice A m.rules.length c]) ?_ rfl ⟨⟨m, _, rfl, HL.out.2.2, HL.out.2.1, ?_⟩, ?_⟩
  · simp [results, Tryz.results13, go_sem, d]
  · exact ownsRow_base (ownsRow_far (ownsRow_far (ownsRow_far ho hfar _) hfar _) hfar _) hge
  · exact ((hXX.setCell (Nat.le_refl _) _).setCell (Nat.le_refl _) _).setCell (Nat.le_refl _) _
end Go.Proofs.YtojiammendjpkaaGreat
end
section
set_option linter.unusedSimpArgs false
set_option linter.unusedVariables false
namespace Go.Proofs.YtojiammendjpkaaGreat
open Go Go.RowKit Go.Proofs
set_option maxHeartbeats 400000
theorem r8Blank_c (w : World) :
    Calls Tryz.prog 11 #[] w fun e w' => ∃ u v, e = .returned (.agg #[.int .i64 0, u, v]) ∧ OwnInts w.heap.size w' u [] ∧ OwnInts w.heap.size w' v [] ∧ Ext w w' := by
  go_enter Tryz.func11, Tryz.ntmps11
  go_wp2
  refine bodyPost_ret (v := .agg #[.int .i64 0, .slice (some ⟨w.heap.size + 1, 0, none⟩) 0 0, .slice (some ⟨w.heap.size + 1 + 1, 0, none⟩) 0 0]) (by simp [results, Tryz.results11, go_sem]) rfl ⟨_, _, rfl, ?_, ?_, ?_⟩
  · exact ⟨by simp [ivs], .inr ⟨w.heap.size + 1, 0, #[], rfl, by omega, (Blk.new _ (w.heap.size + 1) _ _ (by simp)).alloc _, by simp, by unfold maxLen; omega, rfl, by simp [ivs]⟩⟩
  · exact ⟨by simp [ivs], .inr ⟨w.heap.size + 1 + 1, 0, #[], rfl, by omega, Blk.new _ (w.heap.size + 1 + 1) _ _ (by simp), by simp, by unfold maxLen; omega, rfl, by simp [ivs]⟩⟩
  · exact ((Ext.alloc _ _).trans (Ext.alloc _ _)).trans (Ext.alloc _ _)
def AfterRes (w : World) (c : ConfD) (e : Ending) (w' : World) : Prop :=
  ∃ l2 r2, e = .returned (.tuple #[.agg #[.int .i64 c.q, l2, r2], .bool true]) ∧ OwnInts w.heap.size w' l2 c.l ∧ OwnInts w.heap.size w' r2 c.r ∧ Ext w w'
set_option maxRecDepth 20000 in
set_option maxHeartbeats 2000000 in
theorem r8After_c (w : World) (m : MachD) (c : ConfD) (mv lv qv : Value) (N : Nat) (hr : Rules w mv m.rules) (hl : Ints w lv c.l) (hq : Ints w qv c.r) (fl : Flat lv) (fr : Flat qv) (hm : machOk m = true) (hc : confB m c = true) (h1 : 1 ≤ N) (hN : N ≤ 20000) (hrun : RunsTo m c N) :
    Calls Tryz.prog 23 #[.agg #[.int .i64 m.sy, .int .i64 m.st, mv], .agg #[.int .i64 c.q, lv, qv], .int .i64 N] w (AfterRes w (cfgI m c N)) := by
  obtain ⟨Am, cm, rfl, _, _⟩ := id hr.form
  obtain ⟨Al, cl, rfl, _, _⟩ := id hl.form
  obtain ⟨Ar, cr, rfl, _, _⟩ := id hq.form
  obtain ⟨W, hW⟩ : ∃ W, W = ((w.alloc (.cells #[.int .i64 m.sy, .int .i64 m.st, .slice Am m.rules.length cm] 26)).alloc (.cells #[.int .i64 c.q, .slice Al c.l.length cl, .slice Ar c.r.length cr] 29)).alloc (.cells #[.int .i64 0, .slice none 0 0, .slice none 0 0] 29) := ⟨_, rfl⟩
  have hX : Ext w W := by rw [hW]; exact ((Ext.alloc _ _).trans (Ext.alloc _ _)).trans (Ext.alloc _ _)
  obtain ⟨g, hg⟩ : ∃ g, g = w.heap.size + 1 + 1 := ⟨_, rfl⟩
  have bR : Blk W g 29 #[.int .i64 0, .slice none 0 0, .slice none 0 0] := by rw [hW, hg]; exact Blk.new _ _ _ _ (by simp)
  have HG : Hid (w.heap.size ≤ g) := Lib.hid (by omega)
  have h0 : ((N : Int) == 0) = false := by simp; omega
  have HM := Lib.hid hm
  have HC := Lib.hid hc
  have HRUN := Lib.hid hrun
  have HR := Lib.hid (hr.ext hX)
  have HL := Lib.hid (hl.ext hX)
  have HQ := Lib.hid (hq.ext hX)
  have HFL := Lib.hid fl
  have HFR := Lib.hid fr
  have HX := Lib.hid hX
  clear hr hl hq fl fr hm hc hrun hX
  go_enter Tryz.func23, Tryz.ntmps23
  go_wp2_with fail
  rw [← hW, ← hg]
  clear hW hg
  refine (RunMachine_c _ m c _ _ N W HR.out HL.out HQ.out HFL.out HFR.out).mono ?_
  rintro e w2 ⟨hx2, h | h | h | h⟩
  · exfalso
    rw [HM.out, HC.out] at h
    exact absurd h.1 (by decide)
  · exfalso
    have : inB (N : Int) 1 20000 = true := by simp [inB]; omega
    rw [this] at h
    exact absurd h.2.1 (by decide)
  · exfalso
    obtain ⟨_, _, i, hF, _⟩ := h
    exact hF.never (by simpa using HRUN.out)
  · obtain ⟨_, _, i, hE, l2, r2, rfl, o1, o2, _⟩ := h
    have hiN : i = N := hE.exact (by simpa using HRUN.out)
    subst hiN
    obtain ⟨C, hC⟩ : ∃ C, cfgI m c i = C := ⟨_, rfl⟩
    rw [hC] at o1 o2
    rw [hC]
    obtain ⟨y, hy⟩ : ∃ y, decide (lookI m C = noR) = y := ⟨_, rfl⟩
    rw [hy]
    obtain ⟨A2, k2, rfl, _, _⟩ := o1.ints.form
    obtain ⟨B2, j2, rfl, _, _⟩ := o2.ints.form
    have b2 := bR.ext hx2
    have hg2 := b2.lt
    have r0 := b2.cell
    have f0 := b2.frozen
    have n1 := own_far_blk o1 b2 (by decide)
    have n2 := own_far_blk o2 b2 (by decide)
    obtain ⟨S, hS⟩ : ∃ S, S = ((w2.setCell ⟨g, 0, none⟩ (.int .i64 C.q)).setCell ⟨g, 1, none⟩ (.slice A2 C.l.length k2)).setCell ⟨g, 2, none⟩ (.slice B2 C.r.length j2) := ⟨_, rfl⟩
    have eB := Ext.alloc S (.cells #[.int .i64 C.q, .slice A2 C.l.length k2, .slice B2 C.r.length j2] 29)
    have hXX := HX.out.trans hx2
    have HES : Hid (Ext w (S.alloc (.cells #[.int .i64 C.q, .slice A2 C.l.length k2, .slice B2 C.r.length j2] 29))) := Lib.hid (by
      refine Ext.trans ?_ eB
      rw [hS]
      exact ((hXX.setCell HG.out _).setCell HG.out _).setCell HG.out _)
    have HO1 : Hid (OwnInts w.heap.size (S.alloc (.cells #[.int .i64 C.q, .slice A2 C.l.length k2, .slice B2 C.r.length j2] 29)) (.slice A2 C.l.length k2) C.l) := Lib.hid (by
      refine ownsRow_ext ?_ eB
      rw [hS]
      exact ownsRow_base (ownsRow_far (ownsRow_far (ownsRow_far o1 n1 _) n1 _) n1 _) HX.out.size)
    have HO2 : Hid (OwnInts w.heap.size (S.alloc (.cells #[.int .i64 C.q, .slice A2 C.l.length k2, .slice B2 C.r.length j2] 29)) (.slice B2 C.r.length j2) C.r) := Lib.hid (by
      refine ownsRow_ext ?_ eB
      rw [hS]
      exact ownsRow_base (ownsRow_far (ownsRow_far (ownsRow_far o2 n2 _) n2 _) n2 _) HX.out.size)
    have HEE : Hid (∀ i, (S.alloc (.cells #[.int .i64 C.q, .slice A2 C.l.length k2, .slice B2 C.r.length j2] 29)).cell? ⟨g, i, none⟩ = _) := Lib.hid (Blk.cell (Blk.alloc (t := 29) (cs := #[.int .i64 C.q, .slice A2 C.l.length k2, .slice B2 C.r.length j2]) (by rw [hS]; exact ((b2.set_ 0 _).set_ 1 _).set_ 2 _) _))
    have HSS := Lib.hid hS
    have HE := Lib.hid hE
    have HCC := Lib.hid hC
    clear hE hC hy o1 o2 b2 bR n1 n2 hS eB hXX
    go_wp2
    rw [← HSS.out]
    exact bodyPost_ret (v := .tuple #[.agg #[.int .i64 C.q, .slice A2 C.l.length k2, .slice B2 C.r.length j2], .bool true]) (by
      have e0 := HEE.out
      simp [results, Tryz.results23, go_sem, e0]) rfl (by rw [HCC.out]; exact ⟨_, _, rfl, HO1.out, HO2.out, HES.out⟩)
end Go.Proofs.YtojiammendjpkaaGreat
end
section
set_option linter.unusedSimpArgs false
set_option linter.unusedVariables false
namespace Go.Proofs.YtojiammendjpkaaGreat
open Go Go.RowKit Go.Proofs
set_option maxHeartbeats 400000
/-- A run of a formula tape that goes well. -/
theorem RunFRes.good {m : MachD} {f G : FoD} {n : Nat} {w w' : World} {e : Ending} (h : RunFRes m f n w e w') (hr : runF m n f = some G) :
    Ext w w' ∧ ∃ (D1 : Option Addr) (d1 : Nat) (D2 : Option Addr) (d2 : Nat) (D3 : Option Addr) (d3 : Nat), e = .returned (.tuple #[.agg #[.int .i64 G.q, .int .i64 G.hd, .int .i64 G.at_, .slice D1 G.ws.length d1, .slice D2 G.rs.length d2, .slice D3 G.os.length d3], .int .i64 0]) ∧ OwnFo w.heap.size w' (.agg #[.int .i64 G.q, .int .i64 G.hd, .int .i64 G.at_, .slice D1 G.ws.length d1, .slice D2 G.rs.length d2, .slice D3 G.os.length d3]) G := by
  obtain ⟨⟨g, wv, rv, ov, hg, _, rfl, hF, oW, oR, oO⟩ | ⟨hn, _⟩, hx⟩ := h
  · rw [hr] at hg
    injection hg with hg
    subst hg
    obtain ⟨D1, d1, rfl, _, _⟩ := hF.ws.form
    obtain ⟨D2, d2, rfl, _, _⟩ := hF.rs.form
    obtain ⟨D3, d3, rfl, _, _⟩ := hF.os.form
    exact ⟨hx, D1, d1, D2, d2, D3, d3, rfl, ⟨_, _, _, rfl, oW, oR, oO⟩⟩
  · rw [hr] at hn
    cases hn
theorem OwnFo.fov {B : Nat} {w : World} {G : FoD} {u v x : Value} (h : OwnFo B w (.agg #[.int .i64 G.q, .int .i64 G.hd, .int .i64 G.at_, u, v, x]) G) : FoV w (.agg #[.int .i64 G.q, .int .i64 G.hd, .int .i64 G.at_, u, v, x]) G u v x := by
  obtain ⟨wv, rv, ov, e, oW, oR, oO⟩ := h
  simp only [Value.agg.injEq, Array.mk.injEq, List.cons.injEq, and_true, true_and] at e
  obtain ⟨rfl, rfl, rfl⟩ := e
  exact ⟨rfl, oW.lists, oR.lists, oO.ints, oO.flat⟩
/-- A formula tape behind a pointer, and a code. -/
def GAt (w : World) (G : FoD) (u1 u2 : Value) (wx : World) : Prop :=
  ∃ (gG : Nat) (D1 : Option Addr) (d1 : Nat) (D2 : Option Addr) (d2 : Nat) (D3 : Option Addr) (d3 : Nat), u1 = .pointer (some ⟨gG, 0, none⟩) ∧ u2 = .int .i64 0 ∧ Hid (Ext w wx ∧ Blk wx gG 49 #[.int .i64 G.q, .int .i64 G.hd, .int .i64 G.at_, .slice D1 G.ws.length d1, .slice D2 G.rs.length d2, .slice D3 G.os.length d3] ∧ OwnFo w.heap.size wx (.agg #[.int .i64 G.q, .int .i64 G.hd, .int .i64 G.at_, .slice D1 G.ws.length d1, .slice D2 G.rs.length d2, .slice D3 G.os.length d3]) G)
theorem OwnFo.kept {B g : Nat} {w w' : World} {v : Value} {f : FoD} (h : OwnFo B w v f) (hg : w.grownBy w' (some g)) (hlt : g < B) : OwnFo B w' v f := by
  obtain ⟨wv, rv, ov, e, ⟨vs, a1, a2⟩, ⟨rs, b1, b2⟩, c⟩ := h
  have k : ∀ {e : TypeId} {size n : Nat} {v : Value} {xs : List Value}, w.ownsRow B e size v n xs → w'.ownsRow B e size v n xs := fun {e size n v xs} ho => World.ownsRow.kept ho hg (by
    cases hv : v.ownBlock with
    | none => exact .inl rfl
    | some j => exact .inr (fun e' => by have := (ho.lt j hv).1; injection e' with e'; omega))
  exact ⟨wv, rv, ov, e, ⟨vs, k a1, fun i hi => by obtain ⟨u, x, y⟩ := a2 i hi; exact ⟨u, x, k y⟩⟩, ⟨rs, k b1, fun i hi => by obtain ⟨u, x, y⟩ := b2 i hi; exact ⟨u, x, k y⟩⟩, k c⟩
theorem own_extG {B : Nat} {w w' : World} {v : Value} {zs : List Int} (h : OwnInts B w v zs) (he : Ext w w') : OwnInts B w' v zs := ownsRow_ext h he
theorem own_baseG {B B' : Nat} {w : World} {v : Value} {zs : List Int} (h : OwnInts B w v zs) (hb : B' ≤ B) : OwnInts B' w v zs := ownsRow_base h hb
theorem own_keptG {B g : Nat} {w w' : World} {v : Value} {zs : List Int} (h : OwnInts B w v zs) (hg : w.grownBy w' (some g)) (hlt : g < B) : OwnInts B w' v zs := by
  refine World.ownsRow.kept h hg ?_
  cases hv : v.ownBlock with
  | none => exact .inl rfl
  | some j => exact .inr (fun e' => by have := (h.lt j hv).1; injection e' with e'; omega)
/-- A configuration behind a pointer, and a sign that it is one. -/
def SAt (w : World) (C : ConfD) (u1 u2 : Value) (wx : World) : Prop :=
  ∃ (gS : Nat) (D1 : Option Addr) (d1 : Nat) (D2 : Option Addr) (d2 : Nat), u1 = .pointer (some ⟨gS, 0, none⟩) ∧ u2 = .bool true ∧ Hid (Ext w wx ∧ w.heap.size ≤ gS ∧ Blk wx gS 29 #[.int .i64 C.q, .slice D1 C.l.length d1, .slice D2 C.r.length d2] ∧ OwnInts w.heap.size wx (.slice D1 C.l.length d1) C.l ∧ OwnInts w.heap.size wx (.slice D2 C.r.length d2) C.r)
theorem own_far3 {B g : Nat} {w : World} {v : Value} {zs : List Int} {t : TypeId} {cs : Array Value} (h : OwnInts B w v zs) (hb : Blk w g t cs) (hne : t ≠ 2) (a b c : Value) : OwnInts B (((w.setCell ⟨g, 0, none⟩ a).setCell ⟨g, 1, none⟩ b).setCell ⟨g, 2, none⟩ c) v zs := by
  have f := own_far_blk h hb hne
  exact ownsRow_far (ownsRow_far (ownsRow_far h f _) f _) f _
set_option maxRecDepth 20000 in
set_option maxHeartbeats 16000000 in
theorem law24_c (v u : Value) (bs ms : List Int) (w : World) (h : Bytes w v bs) (h' : Bytes w u ms) :
    Calls Tryz.prog 5 #[v, u] w fun e w' => e = .returned (.bool true) ∧ Ext w w' := by
  obtain ⟨i0, hii, hz0, hz1, hz2⟩ := info_parts intInfo
  obtain ⟨Av, cv, rfl, _, _, _⟩ := h.1.form
  obtain ⟨Au, cu, rfl, _, _, _⟩ := h'.1.form
  go_enter Tryz.func5, Tryz.ntmps5
  go_wp2_with fail
  refine (r8Longs_c w Av Au bs.length cv ms.length cu).mono ?_
  rintro e w1 ⟨rfl, rfl⟩
  cases hbig : (decide (1048576 < bs.length) || decide (1048576 < ms.length)) with
  | true =>
    go_wp2
    go_ret
    exact ⟨rfl, Ext.refl _⟩
  | false =>
    clear hbig
    have RM := R8Runner_c _ bs w h
    clear h h'
    go_wp2_with fail
    refine RM.mono ?_
    rintro e w2 ⟨⟨m, mv, rfl, hmk, _, oM⟩, hx2⟩
    obtain ⟨Am, cm, rfl, _⟩ := oM.rules.form
    obtain ⟨V2, hV2⟩ : ∃ V, V = w2.alloc (.cells #[.int .i64 m.sy, .int .i64 m.st, .slice Am m.rules.length cm] 26) := ⟨_, rfl⟩
    obtain ⟨bm, hbm⟩ : ∃ b, w2.heap.size = b := ⟨_, rfl⟩
    have hXV : Ext w2 V2 := by rw [hV2]; exact Ext.alloc _ _
    have bM : Blk V2 bm 26 #[.int .i64 m.sy, .int .i64 m.st, .slice Am m.rules.length cm] := by rw [hV2]; exact Blk.new _ _ _ _ hbm
    have FB := FindBouncer_c V2 m (.slice Am m.rules.length cm) 120 (oM.rules.ext hXV) hmk (by omega) (by omega)
    have HM := Lib.hid (And.intro hmk (And.intro (oM.rules.ext hXV) (And.intro bM (hx2.trans hXV))))
    have m0 := bM.cell 0
    have m1 := bM.cell 1
    have m2 := bM.cell 2
    simp only [List.getElem?_toArray, List.getElem?_cons_zero, List.getElem?_cons_succ] at m0 m1 m2
    clear RM oM hmk hXV hx2 bM
    go_wp2_with fail
    try rw [← hV2]
    try rw [hbm]
    clear hV2 hbm
    refine FB.mono ?_
    rintro e w3 ⟨hx3, ⟨code, hcode, rfl⟩ | ⟨n0, n, f, cs, ws, nv, pv, rfl, hO, h0, iN, iP⟩⟩
    · have HX3 := Lib.hid hx3
      clear FB hx3 m0 m1 m2
      rcases hcode with rfl | rfl | rfl
      · go_wp2
        go_ret
        exact ⟨rfl, (HM.out.2.2.2.trans HX3.out).trans (Ext.alloc _ _)⟩
      · go_wp2
        go_ret
        exact ⟨rfl, (HM.out.2.2.2.trans HX3.out).trans (Ext.alloc _ _)⟩
      · go_wp2
        go_ret
        exact ⟨rfl, (HM.out.2.2.2.trans HX3.out).trans (Ext.alloc _ _)⟩
    · obtain ⟨G, l, hB24⟩ := hO.b24 HM.out.1
      obtain ⟨hrl, hc1, hc3, hrl4⟩ := hO.rl
      obtain ⟨L, hL⟩ : ∃ L, (n0 : Int) :: (n : Int) :: f.hd :: f.at_ :: cs = L := ⟨_, rfl⟩
      have hLl : L.length = cs.length + 4 := by rw [← hL]; rfl
      rw [hL] at iN
      obtain ⟨An, cn, rfl, _, _⟩ := id iN.form
      obtain ⟨Ap, cp, rfl, _, _⟩ := id iP.form
      obtain ⟨bN, oN, rfl, hcN⟩ := iN.at (k := 0) (by omega)
      have k0 := hcN 0 (by omega)
      have k1 := hcN 1 (by omega)
      have k0' : w3.cell? ⟨bN, oN, none⟩ = some (.int .i64 (n0 : Int)) := by
        have e : L[0]'(by omega) = (n0 : Int) := by subst hL; rfl
        rw [Nat.add_zero, e] at k0
        exact k0
      have k1' : w3.cell? ⟨bN, oN + 1, none⟩ = some (.int .i64 (n : Int)) := by
        have e : L[1]'(by omega) = (n : Int) := by subst hL; rfl
        rw [e] at k1
        exact k1
      have knews : ∀ j z, (ivs cs)[j]? = some z → w3.cell? ⟨bN, oN + 4 + j, none⟩ = some z := fun j z hz => by
        have hj : j < cs.length := by simpa using (List.getElem?_eq_some_iff.1 hz).1
        have h4 := hcN (4 + j) (by omega)
        rw [ivs_get cs j hj] at hz
        have e : L[4 + j]'(by omega) = cs[j] := by subst hL; simp [Nat.add_comm 4 j]
        rw [e, ← Nat.add_assoc] at h4
        rw [← hz]
        exact h4
      obtain ⟨V3, hV3⟩ : ∃ V, V = w3.alloc (.cells #[.int .i64 6, .slice (some ⟨bN, oN, none⟩) L.length cn, .slice Ap ws.length cp] 34) := ⟨_, rfl⟩
      obtain ⟨bp, hbp⟩ : ∃ b, w3.heap.size = b := ⟨_, rfl⟩
      have e3 : Ext w3 V3 := by rw [hV3]; exact Ext.alloc _ _
      have bP : Blk V3 bp 34 #[.int .i64 6, .slice (some ⟨bN, oN, none⟩) L.length cn, .slice Ap ws.length cp] := by rw [hV3]; exact Blk.new _ _ _ _ hbp
      have CB := CheckBouncer_c m (.slice Am m.rules.length cm) (.slice (some ⟨bN, oN, none⟩) L.length cn) (.slice Ap ws.length cp) n0 n f cs ws V3 (HM.out.2.1.ext (hx3.trans e3)) HM.out.1 (by rw [hL]; exact iN.ext e3) (iP.ext e3) hO
      have HO := Lib.hid (And.intro hO (And.intro h0 (And.intro (iN.ext e3) (And.intro (iP.ext e3) (And.intro hL (And.intro bP (hx3.trans e3)))))))
      have HK := Lib.hid (And.intro (e3.cell k0') (And.intro (e3.cell k1') (fun j z hz => e3.cell (knews j z hz))))
      have hB := Lib.hid hB24
      have HLL := Lib.hid hLl
      have hl5 : 5 ≤ L.length := by omega
      have hlcn : L.length ≤ cn := by obtain ⟨_, _, e, h, _⟩ := iN.form; (injection e with _ _ e3') <;> omega
      have m0' := (hx3.trans e3).cell m0
      have m1' := (hx3.trans e3).cell m1
      have m2' := (hx3.trans e3).cell m2
      rw [hV3] at m0' m1' m2'
      have p0 := bP.cell 0
      have p1 := bP.cell 1
      have p2 := bP.cell 2
      simp only [List.getElem?_toArray, List.getElem?_cons_zero, List.getElem?_cons_succ] at p0 p1 p2
      clear FB hO h0 iN iP hL bP hcN k0 k1 k0' k1' knews e3 hx3 hB24 hLl m0 m1 m2 hrl hrl4
      go_wp2_with fail
      try rw [← hV3]
      try rw [hbp]
      clear hV3 hbp
      clear m0' m1' m2'
      refine CB.mono ?_
      rintro e w4 ⟨rfl, hx4⟩
      clear CB
      have HX4 := Lib.hid hx4
      replace p0 := hx4.cell p0
      replace p1 := hx4.cell p1
      replace p2 := hx4.cell p2
      obtain ⟨gc0, hgc0⟩ : ∃ g, w4.heap.size = g := ⟨_, rfl⟩
      have own0 : (w4.alloc (.cells #[] 2)).ownsRow gc0 2 1 (.slice (some ⟨gc0, 0, none⟩) 0 0) 0 [] := ⟨rfl, .inr ⟨gc0, 0, #[], rfl, Nat.le_refl _, Blk.new _ _ _ _ hgc0, Nat.le_refl _, by unfold maxLen; omega, rfl, rfl⟩⟩
      have hL4 : L.length - 4 = cs.length := by have := HLL.out; omega
      have p1a := (Ext.alloc w4 (.cells #[] 2)).cell p1
      clear hx4
      go_wp2_with (at_builtin; refine wpList_append_own_at _ rfl _ _ 27 rfl gc0 2 i0 (.int .i64 0) 1 8 Tryz.underlying27 hii hz0 hz1 hz2 rfl (by decide) _ _ [] rfl own0 ⟨bN, oN + 4, none⟩ cs.length (cn - 4) (ivs cs) rfl ?d0 ?d1 ?d2 ?d3 ?d4 ?d5 ?_)
      case d0 => simp
      case d1 =>
        intro j z hz
        have hadd : (⟨bN, oN + 4, none⟩ : Addr).add j = ⟨bN, oN + 4 + j, none⟩ := by unfold Addr.add; split <;> simp_all
        rw [hadd]
        exact (Ext.alloc w4 (.cells #[] 2)).cell (HX4.out.cell (HK.out.2.2 j z hz))
      case d2 => intro z hz; simp only [ivs, List.mem_map] at hz; obtain ⟨y, _, rfl⟩ := hz; rfl
      case d3 => unfold maxLen; omega
      case d4 => omega
      case d5 => simp; omega
      intro v' w5 hown5 hg5 _ _
      have hgcx : ∃ gc cc, v' = .slice (some ⟨gc, 0, none⟩) cs.length cc ∧ gc0 ≤ gc := by
        rcases hown5.2 with ⟨h0, h1⟩ | ⟨g, cap, cur, rfl, hb, _⟩
        · omega
        · exact ⟨g, cap, rfl, hb⟩
      obtain ⟨gc, cc, rfl, hgc⟩ := hgcx
      have hx5 : Ext w4 w5 := (Ext.alloc w4 _).grown hg5 (fun j hj => by simp [Value.ownBlock] at hj; omega)
      have hx35 : Ext V3 w5 := HX4.out.trans hx5
      have hx25 : Ext V2 w5 := HO.out.2.2.2.2.2.2.trans hx35
      have FO := FormulaOf_c m (.slice Am m.rules.length cm) (.slice (some ⟨bN, oN, none⟩) L.length cn) (.slice Ap ws.length cp) n0 n f cs ws w5 (HM.out.2.1.ext hx25) HM.out.1 (by rw [HO.out.2.2.2.2.1]; exact HO.out.2.2.1.ext hx35) (HO.out.2.2.2.1.ext hx35) HO.out.1
      clear p0 p1 p2 p1a
      have bMx := HM.out.2.2.1.ext hx25
      have m0 := bMx.cell 0
      have m1 := bMx.cell 1
      have m2 := bMx.cell 2
      simp only [List.getElem?_toArray, List.getElem?_cons_zero, List.getElem?_cons_succ] at m0 m1 m2
      clear bMx
      have bPx := HO.out.2.2.2.2.2.1.ext hx35
      have p0 := bPx.cell 0
      have p1 := bPx.cell 1
      have p2 := bPx.cell 2
      simp only [List.getElem?_toArray, List.getElem?_cons_zero, List.getElem?_cons_succ] at p0 p1 p2
      clear bPx
      have hv3 : V3.heap.size ≤ gc0 := by have := HX4.out.size; omega
      have H5 := Lib.hid (And.intro hown5 (And.intro hx35 (And.intro hx25 (And.intro hgc hv3))))
      clear hg5 hown5 hx5 hx35 hx25 own0 hgc hgc0 hv3
      go_wp2_with fail
      refine FO.mono ?_
      rintro e w6 ⟨hx6, wv, rv, ov, rfl, FV, oW, oR, oO⟩
      clear FO m0 m1 m2 p0 p1 p2
      obtain ⟨A1, c1, rfl, _, _⟩ := FV.ws.form
      obtain ⟨A2, c2, rfl, _, _⟩ := FV.rs.form
      obtain ⟨A3, c3, rfl, _, _⟩ := FV.os.form
      obtain ⟨V6, hV6⟩ : ∃ V, V = w6.alloc (.cells #[.int .i64 f.q, .int .i64 f.hd, .int .i64 f.at_, .slice A1 f.ws.length c1, .slice A2 f.rs.length c2, .slice A3 f.os.length c3] 49) := ⟨_, rfl⟩
      obtain ⟨bf, hbf⟩ : ∃ b, w6.heap.size = b := ⟨_, rfl⟩
      have e6 : Ext w6 V6 := by rw [hV6]; exact Ext.alloc _ _
      have bF : Blk V6 bf 49 #[.int .i64 f.q, .int .i64 f.hd, .int .i64 f.at_, .slice A1 f.ws.length c1, .slice A2 f.rs.length c2, .slice A3 f.os.length c3] := by rw [hV6]; exact Blk.new _ _ _ _ hbf
      have hx56 := hx6.trans e6
      have oF : OwnFo w5.heap.size V6 (.agg #[.int .i64 f.q, .int .i64 f.hd, .int .i64 f.at_, .slice A1 f.ws.length c1, .slice A2 f.rs.length c2, .slice A3 f.os.length c3]) f := ⟨_, _, _, rfl, oW.ext e6, oR.ext e6, ownsRow_ext oO e6⟩
      have bMx := HM.out.2.2.1.ext (H5.out.2.2.1.trans hx56)
      have m0 := bMx.cell 0
      have m1 := bMx.cell 1
      have m2 := bMx.cell 2
      simp only [List.getElem?_toArray, List.getElem?_cons_zero, List.getElem?_cons_succ] at m0 m1 m2
      clear bMx
      have bPx := HO.out.2.2.2.2.2.1.ext (H5.out.2.1.trans hx56)
      have p0 := bPx.cell 0
      have p1 := bPx.cell 1
      have p2 := bPx.cell 2
      simp only [List.getElem?_toArray, List.getElem?_cons_zero, List.getElem?_cons_succ] at p0 p1 p2
      clear bPx
      have f0 := bF.cell 0
      have f1 := bF.cell 1
      have f2 := bF.cell 2
      have f3 := bF.cell 3
      have f4 := bF.cell 4
      have f5 := bF.cell 5
      simp only [List.getElem?_toArray, List.getElem?_cons_zero, List.getElem?_cons_succ] at f0 f1 f2 f3 f4 f5
      have k0 := (H5.out.2.1.trans hx56).cell HK.out.1
      have k1 := (H5.out.2.1.trans hx56).cell HK.out.2.1
      have RF := fun x (hx : Ext V6 x) => RunFormula_c m (.slice Am m.rules.length cm) _ _ _ f n x ((FV.ext e6).ext hx) HO.out.1.hok HM.out.1 (HM.out.2.1.ext ((H5.out.2.2.1.trans hx56).trans hx)) (by have := HO.out.1.hn; omega)
      have RC : ∀ x, Ext V6 x → Calls Tryz.prog 21 #[.agg #[.int .i64 m.sy, .int .i64 m.st, .slice Am m.rules.length cm], .agg #[.int .i64 f.q, .int .i64 f.hd, .int .i64 f.at_, .slice A1 f.ws.length c1, .slice A2 f.rs.length c2, .slice A3 f.os.length c3], .int .i64 (n : Int)] x (fun e w' => Ext x w' ∧ ∃ (D1 : Option Addr) (d1 : Nat) (D2 : Option Addr) (d2 : Nat) (D3 : Option Addr) (d3 : Nat), e = .returned (.tuple #[.agg #[.int .i64 G.q, .int .i64 G.hd, .int .i64 G.at_, .slice D1 G.ws.length d1, .slice D2 G.rs.length d2, .slice D3 G.os.length d3], .int .i64 0]) ∧ OwnFo x.heap.size w' (.agg #[.int .i64 G.q, .int .i64 G.hd, .int .i64 G.at_, .slice D1 G.ws.length d1, .slice D2 G.rs.length d2, .slice D3 G.os.length d3]) G) :=
        fun x hx => (RF x hx).mono fun e w' h => h.good hB.out.run
      have hbf5 : w5.heap.size ≤ bf := by rw [← hbf]; exact hx6.size
      have H6 := Lib.hid (And.intro oF (And.intro bF (And.intro hx56 (And.intro (FV.ext e6) hbf5))))
      have hnl : (1 : Int) < (L.length : Int) := by omega
      have hnl0 : (0 : Int) < (L.length : Int) := by omega
      have hnl00 : 0 < L.length := by omega
      clear RF FV oW oR oO e6 bF hx6 oF hx56 hbf5
      go_upto_region 11 with fail
      try rw [← hV6]
      try rw [hbf]
      clear hV6 hbf
      go_cut [11, 12] (fun u1 u2 wx => GAt V6 G u1 u2 wx)
      case first =>
        refine wp_region_ordT 12 (readsT [0, 1, 2, 3, 4, 5] (.fork 6 (readsT [7, 8, 9] (.stir 10 (.stir 11 .done))) 10 (.stir 6 (readsT [7, 8, 9] (.stir 11 .done))))) (by kernel_rfl) (by kernel_rfl) (fun _ _ _ _ _ h => h) ?_
        simp only [readsT]
        iterate 6 (refine wpOrdT_read (v := ?_) (by rfl) (Or.inl ⟨by rfl, fun x hx => ?_⟩) ?_; rotate_left; (· have m0 := hx.cell m0; have m1 := hx.cell m1; have m2 := hx.cell m2; have f0 := hx.cell f0; have f1 := hx.cell f1; have f2 := hx.cell f2; have f3 := hx.cell f3; have f4 := hx.cell f4; have f5 := hx.cell f5; have p1 := hx.cell p1; have k1 := hx.cell k1; go_simp; try with_reducible rfl); try simp only [Act.put, List.setIfInBounds_toArray, List.set_cons_zero, List.set_cons_succ])
        have hxr : Ext V6 V6.drew := Ext.drew V6
        generalize V6.drew = w0 at *
        have xw0 : Ext w0 w0 := Ext.refl w0
        refine wpOrdT_forks (by rfl) (by rfl) (fun K hK => ?_) (fun K hK => ?_)
        · go_simp
          go_at_call 21
          refine (RC w0 (hxr.trans xw0)).mono ?_
          rintro e w_1 ⟨h1, D1, d1, D2, d2, D3, d3, rfl, oG⟩
          replace oG := oG.base (Nat.le_trans hxr.size xw0.size)
          have xw_1 : Ext w0 w_1 := xw0.trans h1
          refine hK (Ext w0) _ _ (fun _ h => h) xw_1 ?_
          clear hK K
          try simp only [Act.put, List.setIfInBounds_toArray, List.set_cons_zero, List.set_cons_succ]
          iterate 3 (refine wpOrdT_read (v := ?_) (by rfl) (Or.inl ⟨by rfl, fun x hx => ?_⟩) ?_; rotate_left; (· go_simp; try with_reducible rfl); try simp only [Act.put, List.setIfInBounds_toArray, List.set_cons_zero, List.set_cons_succ])
          refine wpOrdT_keep (by rfl) (fun K hK => ?_)
          go_simp
          have bA : Blk (w_1.alloc (.cells #[.int .i64 0, .int .i64 0, .int .i64 0, .slice none 0 0, .slice none 0 0, .slice none 0 0] 49)) w_1.heap.size 49 #[.int .i64 0, .int .i64 0, .int .i64 0, .slice none 0 0, .slice none 0 0, .slice none 0 0] := Blk.new _ _ _ _ rfl
          have hA : Ext w_1 (w_1.alloc (.cells #[.int .i64 0, .int .i64 0, .int .i64 0, .slice none 0 0, .slice none 0 0, .slice none 0 0] 49)) := Ext.alloc _ _
          have xA : Ext w0 (w_1.alloc (.cells #[.int .i64 0, .int .i64 0, .int .i64 0, .slice none 0 0, .slice none 0 0, .slice none 0 0] 49)) := xw_1.trans hA
          refine hK _ _ xA ?_
          clear hK K
          try simp only [Act.put, List.setIfInBounds_toArray, List.set_cons_zero, List.set_cons_succ]
          generalize w_1.alloc (.cells #[.int .i64 0, .int .i64 0, .int .i64 0, .slice none 0 0, .slice none 0 0, .slice none 0 0] 49) = wA at *
          obtain ⟨gF, hgF⟩ : ∃ g, w_1.heap.size = g := ⟨_, rfl⟩
          have nA : w0.heap.size ≤ gF := by rw [← hgF]; exact xw_1.size
          rw [hgF] at bA
          try rw [hgF]
          replace oG := oG.ext hA
          have y0 := bA.cell 0
          have z0 := bA.frozen 0
          have y1 := bA.cell 1
          have z1 := bA.frozen 1
          have y2 := bA.cell 2
          have z2 := bA.frozen 2
          have y3 := bA.cell 3
          have z3 := bA.frozen 3
          have y4 := bA.cell 4
          have z4 := bA.frozen 4
          have y5 := bA.cell 5
          have z5 := bA.frozen 5
          simp only [List.getElem?_toArray, List.getElem?_cons_zero, List.getElem?_cons_succ] at y0 y1 y2 y3 y4 y5
          have HA := Lib.hid (And.intro bA (And.intro xA oG))
          have hsz := hxr.size
          clear bA oG
          refine wpOrdT_keep (by rfl) (fun K hK => ?_)
          go_simp
          refine hK _ _ ((((((HA.out.2.1.setCell nA _).setCell nA _).setCell nA _).setCell nA _).setCell nA _).setCell nA _) ?_
          clear hK K
          try simp only [Act.put, List.setIfInBounds_toArray, List.set_cons_zero, List.set_cons_succ]
          refine wpOrdT_done ?_
          try simp only [List.drop_succ_cons, List.drop_zero]
          go_wp2_with fail
          go_meet
          have nA' : V6.heap.size ≤ gF := Nat.le_trans hsz nA
          exact ⟨_, D1, d1, D2, d2, D3, d3, rfl, rfl, Lib.hid ⟨(((((((hxr.trans HA.out.2.1).setCell nA' _).setCell nA' _).setCell nA' _).setCell nA' _).setCell nA' _).setCell nA' _), ((((((HA.out.1.set_ 0 _).set_ 1 _).set_ 2 _).set_ 3 _).set_ 4 _).set_ 5 _), HA.out.2.2.far6 HA.out.1 (by decide) (by decide) _ _ _ _ _ _⟩⟩
        · go_simp
          have bA : Blk (w0.alloc (.cells #[.int .i64 0, .int .i64 0, .int .i64 0, .slice none 0 0, .slice none 0 0, .slice none 0 0] 49)) w0.heap.size 49 #[.int .i64 0, .int .i64 0, .int .i64 0, .slice none 0 0, .slice none 0 0, .slice none 0 0] := Blk.new _ _ _ _ rfl
          have hA : Ext w0 (w0.alloc (.cells #[.int .i64 0, .int .i64 0, .int .i64 0, .slice none 0 0, .slice none 0 0, .slice none 0 0] 49)) := Ext.alloc _ _
          have xA : Ext w0 (w0.alloc (.cells #[.int .i64 0, .int .i64 0, .int .i64 0, .slice none 0 0, .slice none 0 0, .slice none 0 0] 49)) := xw0.trans hA
          refine hK (Ext w0) _ _ (fun _ h => h) xA ?_
          clear hK K
          try simp only [Act.put, List.setIfInBounds_toArray, List.set_cons_zero, List.set_cons_succ]
          generalize w0.alloc (.cells #[.int .i64 0, .int .i64 0, .int .i64 0, .slice none 0 0, .slice none 0 0, .slice none 0 0] 49) = wA at *
          obtain ⟨gF, hgF⟩ : ∃ g, w0.heap.size = g := ⟨_, rfl⟩
          have nA : w0.heap.size ≤ gF := by rw [← hgF]; exact xw0.size
          rw [hgF] at bA
          try rw [hgF]
          refine wpOrdT_keep (by rfl) (fun K hK => ?_)
          go_simp
          go_at_call 21
          refine (RC wA (hxr.trans xA)).mono ?_
          rintro e w_1 ⟨h1, D1, d1, D2, d2, D3, d3, rfl, oG⟩
          replace oG := oG.base (Nat.le_trans hxr.size xA.size)
          have xw_1 : Ext w0 w_1 := xA.trans h1
          refine hK _ _ xw_1 ?_
          clear hK K
          try simp only [Act.put, List.setIfInBounds_toArray, List.set_cons_zero, List.set_cons_succ]
          replace bA := bA.ext h1
          iterate 3 (refine wpOrdT_read (v := ?_) (by rfl) (Or.inl ⟨by rfl, fun x hx => ?_⟩) ?_; rotate_left; (· go_simp; try with_reducible rfl); try simp only [Act.put, List.setIfInBounds_toArray, List.set_cons_zero, List.set_cons_succ])
          have y0 := bA.cell 0
          have z0 := bA.frozen 0
          have y1 := bA.cell 1
          have z1 := bA.frozen 1
          have y2 := bA.cell 2
          have z2 := bA.frozen 2
          have y3 := bA.cell 3
          have z3 := bA.frozen 3
          have y4 := bA.cell 4
          have z4 := bA.frozen 4
          have y5 := bA.cell 5
          have z5 := bA.frozen 5
          simp only [List.getElem?_toArray, List.getElem?_cons_zero, List.getElem?_cons_succ] at y0 y1 y2 y3 y4 y5
          have HA := Lib.hid (And.intro bA (And.intro xw_1 oG))
          have hsz := hxr.size
          clear bA oG
          refine wpOrdT_keep (by rfl) (fun K hK => ?_)
          go_simp
          refine hK _ _ ((((((HA.out.2.1.setCell nA _).setCell nA _).setCell nA _).setCell nA _).setCell nA _).setCell nA _) ?_
          clear hK K
          try simp only [Act.put, List.setIfInBounds_toArray, List.set_cons_zero, List.set_cons_succ]
          refine wpOrdT_done ?_
          try simp only [List.drop_succ_cons, List.drop_zero]
          go_wp2_with fail
          go_meet
          have nA' : V6.heap.size ≤ gF := Nat.le_trans hsz nA
          exact ⟨_, D1, d1, D2, d2, D3, d3, rfl, rfl, Lib.hid ⟨(((((((hxr.trans HA.out.2.1).setCell nA' _).setCell nA' _).setCell nA' _).setCell nA' _).setCell nA' _).setCell nA' _), ((((((HA.out.1.set_ 0 _).set_ 1 _).set_ 2 _).set_ 3 _).set_ 4 _).set_ 5 _), HA.out.2.2.far6 HA.out.1 (by decide) (by decide) _ _ _ _ _ _⟩⟩
      case rest =>
        clear RC m0 m1 m2 p0 p1 p2 f0 f1 f2 f3 f4 f5 k0 k1
        obtain ⟨gG, D1, d1, D2, d2, D3, d3, rfl, rfl, HT⟩ := hcut
        generalize wc = w7 at *
        obtain ⟨x67, bG, oG⟩ := HT.out
        have x57 : Ext w5 w7 := H6.out.2.2.1.trans x67
        have x37 : Ext V3 w7 := H5.out.2.1.trans x57
        have x27 : Ext V2 w7 := H5.out.2.2.1.trans x57
        have bF := H6.out.2.1.ext x67
        have bMx := HM.out.2.2.1.ext x27
        have m0 := bMx.cell 0
        have m1 := bMx.cell 1
        have m2 := bMx.cell 2
        simp only [List.getElem?_toArray, List.getElem?_cons_zero, List.getElem?_cons_succ] at m0 m1 m2
        clear bMx
        have f0 := bF.cell 0
        have f1 := bF.cell 1
        have f2 := bF.cell 2
        have f3 := bF.cell 3
        have f4 := bF.cell 4
        have f5 := bF.cell 5
        simp only [List.getElem?_toArray, List.getElem?_cons_zero, List.getElem?_cons_succ] at f0 f1 f2 f3 f4 f5
        have g0 := bG.cell 0
        have g1 := bG.cell 1
        have g2 := bG.cell 2
        have g3 := bG.cell 3
        have g4 := bG.cell 4
        have g5 := bG.cell 5
        simp only [List.getElem?_toArray, List.getElem?_cons_zero, List.getElem?_cons_succ] at g0 g1 g2 g3 g4 g5
        have GR := GrowthOfG_c m (.slice Am m.rules.length cm) _ _ _ _ _ _ f G w7 (H6.out.2.2.2.1.ext x67) oG.fov HO.out.1.hok hB.out.ok HM.out.1 (HM.out.2.1.ext x27)
        have H7 := Lib.hid (And.intro x57 (And.intro x37 (And.intro x27 x67)))
        clear x57 x37 x27 x67 bG oG bF
        go_wp2_with fail
        refine GR.mono ?_
        rintro e w8 ⟨hr, hx8⟩
        clear GR m0 m1 m2 f0 f1 f2 f3 f4 f5 g0 g1 g2 g3 g4 g5
        rcases hr with ⟨l', uu, base, hl', rfl, ou, hbase⟩ | ⟨hl', _⟩
        case inr =>
          exfalso
          rw [hB.out.grow] at hl'
          cases hl'
        obtain rfl : l' = l := by rw [hB.out.grow] at hl'; exact (Option.some.inj hl').symm
        obtain ⟨Al, cl, rfl, _, _⟩ := id ou.ints.form
        obtain ⟨C, hC⟩ : ∃ C, cfgI m blankC n0 = C := ⟨_, rfl⟩
        have x28 : Ext V2 w8 := H7.out.2.2.1.trans hx8
        have x38 : Ext V3 w8 := H7.out.2.1.trans hx8
        have bMx := HM.out.2.2.1.ext x28
        have m0 := bMx.cell 0
        have m1 := bMx.cell 1
        have m2 := bMx.cell 2
        simp only [List.getElem?_toArray, List.getElem?_cons_zero, List.getElem?_cons_succ] at m0 m1 m2
        clear bMx
        have bPx := HO.out.2.2.2.2.2.1.ext x38
        have p0 := bPx.cell 0
        have p1 := bPx.cell 1
        have p2 := bPx.cell 2
        simp only [List.getElem?_toArray, List.getElem?_cons_zero, List.getElem?_cons_succ] at p0 p1 p2
        clear bPx
        have k0 := x38.cell HK.out.1
        have AF : ∀ x u v, Ext w8 x → Ints x u [] → Ints x v [] → Flat u → Flat v → Calls Tryz.prog 23 #[.agg #[.int .i64 m.sy, .int .i64 m.st, .slice Am m.rules.length cm], .agg #[.int .i64 0, u, v], .int .i64 (n0 : Int)] x (AfterRes x C) := fun x u v hx h1 h2 f1 f2 => by
          rw [← hC]
          exact r8After_c x m blankC _ u v n0 (HM.out.2.1.ext (x28.trans hx)) h1 h2 f1 f2 HM.out.1 (conf_blank HM.out.1) HO.out.2.1 HO.out.1.hN HO.out.1.hE
        have H8 := Lib.hid (And.intro ou (And.intro hbase (And.intro hx8 (And.intro hC (And.intro x28 x38)))))
        clear ou hbase hx8 hl' hC x28 x38
        go_upto_region 13 with fail
        go_cut [15, 16] (fun u1 u2 wx => SAt w8 C u1 u2 wx)
        case first =>
          refine wp_region_ordT 12 (readsT [0, 2, 3, 4, 5] (.fork 1 (.fork 6 (readsT [7, 8, 9] (.stir 10 (.stir 11 .done))) 10 (.stir 6 (readsT [7, 8, 9] (.stir 11 .done)))) 10 (.stir 1 (.stir 6 (readsT [7, 8, 9] (.stir 11 .done)))))) (by kernel_rfl) (by kernel_rfl) (fun _ _ _ _ _ h => h) ?_
          simp only [readsT]
          iterate 5 (refine wpOrdT_read (v := ?_) (by rfl) (Or.inl ⟨by rfl, fun x hx => ?_⟩) ?_; rotate_left; (· have m0 := hx.cell m0; have m1 := hx.cell m1; have m2 := hx.cell m2; have p1 := hx.cell p1; have k0 := hx.cell k0; go_simp; try with_reducible rfl); try simp only [Act.put, List.setIfInBounds_toArray, List.set_cons_zero, List.set_cons_succ])
          have hxr : Ext w8 w8.drew := Ext.drew w8
          generalize w8.drew = w0 at *
          have xw0 : Ext w0 w0 := Ext.refl w0
          refine wpOrdT_forks (by rfl) (by rfl) (fun K hK => ?_) (fun K hK => ?_)
          · go_simp
            go_at_call 11
            refine (r8Blank_c w0).mono ?_
            rintro e w_1 ⟨u, v, rfl, o1, o2, h1⟩
            obtain ⟨U1, j1, rfl, _, _⟩ := id o1.ints.form
            obtain ⟨U2, j2, rfl, _, _⟩ := id o2.ints.form
            have xw_1 : Ext w0 w_1 := xw0.trans h1
            refine hK (Ext w0) _ _ (fun _ h => h) xw_1 ?_
            clear hK K
            try simp only [Act.put, List.setIfInBounds_toArray, List.set_cons_zero, List.set_cons_succ]
            refine wpOrdT_forks (by rfl) (by rfl) (fun K hK => ?_) (fun K hK => ?_)
            · go_simp
              go_at_call 23
              refine (AF w_1 _ _ (hxr.trans xw_1) (o1.ints.ext (Ext.refl _)) (o2.ints.ext (Ext.refl _)) o1.flat o2.flat).mono ?_
              rintro e w_2 ⟨l2, r2, rfl, oL, oR, h2⟩
              obtain ⟨D1, d1, rfl, _, _⟩ := id oL.ints.form
              obtain ⟨D2, d2, rfl, _, _⟩ := id oR.ints.form
              replace oL := own_baseG oL (Nat.le_trans hxr.size xw_1.size)
              replace oR := own_baseG oR (Nat.le_trans hxr.size xw_1.size)
              have xw_2 : Ext w0 w_2 := xw_1.trans h2
              refine hK (Ext w0) _ _ (fun _ h => h) xw_2 ?_
              clear hK K
              try simp only [Act.put, List.setIfInBounds_toArray, List.set_cons_zero, List.set_cons_succ]
              iterate 3 (refine wpOrdT_read (v := ?_) (by rfl) (Or.inl ⟨by rfl, fun x hx => ?_⟩) ?_; rotate_left; (· go_simp; try with_reducible rfl); try simp only [Act.put, List.setIfInBounds_toArray, List.set_cons_zero, List.set_cons_succ])
              refine wpOrdT_keep (by rfl) (fun K hK => ?_)
              go_simp
              have bA : Blk (w_2.alloc (.cells #[.int .i64 0, .slice none 0 0, .slice none 0 0] 29)) w_2.heap.size 29 #[.int .i64 0, .slice none 0 0, .slice none 0 0] := Blk.new _ _ _ _ rfl
              have hA : Ext w_2 (w_2.alloc (.cells #[.int .i64 0, .slice none 0 0, .slice none 0 0] 29)) := Ext.alloc _ _
              have xA : Ext w0 (w_2.alloc (.cells #[.int .i64 0, .slice none 0 0, .slice none 0 0] 29)) := xw_2.trans hA
              refine hK _ _ xA ?_
              clear hK K
              try simp only [Act.put, List.setIfInBounds_toArray, List.set_cons_zero, List.set_cons_succ]
              generalize w_2.alloc (.cells #[.int .i64 0, .slice none 0 0, .slice none 0 0] 29) = wA at *
              obtain ⟨gF, hgF⟩ : ∃ g, w_2.heap.size = g := ⟨_, rfl⟩
              have nA : w0.heap.size ≤ gF := by rw [← hgF]; exact xw_2.size
              rw [hgF] at bA
              try rw [hgF]
                  have y0 := bA.cell 0
              have z0 := bA.frozen 0
              have y1 := bA.cell 1
              have z1 := bA.frozen 1
              have y2 := bA.cell 2
              have z2 := bA.frozen 2
              simp only [List.getElem?_toArray, List.getElem?_cons_zero, List.getElem?_cons_succ] at y0 y1 y2
              have HA := Lib.hid (And.intro bA (And.intro xA (And.intro (own_extG oL hA) (own_extG oR hA))))
              have hsz := hxr.size
              clear bA oL oR
              refine wpOrdT_keep (by rfl) (fun K hK => ?_)
              go_simp
              refine hK _ _ (((HA.out.2.1.setCell nA _).setCell nA _).setCell nA _) ?_
              clear hK K
              try simp only [Act.put, List.setIfInBounds_toArray, List.set_cons_zero, List.set_cons_succ]
              refine wpOrdT_done ?_
              try simp only [List.drop_succ_cons, List.drop_zero]
              go_wp2_with fail
              go_meet
              have nA' : w8.heap.size ≤ gF := Nat.le_trans hsz nA
              exact ⟨_, D1, d1, D2, d2, rfl, rfl, Lib.hid ⟨((((hxr.trans HA.out.2.1).setCell nA' _).setCell nA' _).setCell nA' _), nA', (((HA.out.1.set_ 0 _).set_ 1 _).set_ 2 _), own_far3 HA.out.2.2.1 HA.out.1 (by decide) _ _ _, own_far3 HA.out.2.2.2 HA.out.1 (by decide) _ _ _⟩⟩
            · go_simp
              have bA : Blk (w_1.alloc (.cells #[.int .i64 0, .slice none 0 0, .slice none 0 0] 29)) w_1.heap.size 29 #[.int .i64 0, .slice none 0 0, .slice none 0 0] := Blk.new _ _ _ _ rfl
              have hA : Ext w_1 (w_1.alloc (.cells #[.int .i64 0, .slice none 0 0, .slice none 0 0] 29)) := Ext.alloc _ _
              have xA : Ext w0 (w_1.alloc (.cells #[.int .i64 0, .slice none 0 0, .slice none 0 0] 29)) := xw_1.trans hA
              refine hK (Ext w0) _ _ (fun _ h => h) xA ?_
              clear hK K
              try simp only [Act.put, List.setIfInBounds_toArray, List.set_cons_zero, List.set_cons_succ]
              generalize w_1.alloc (.cells #[.int .i64 0, .slice none 0 0, .slice none 0 0] 29) = wA at *
              obtain ⟨gF, hgF⟩ : ∃ g, w_1.heap.size = g := ⟨_, rfl⟩
              have nA : w0.heap.size ≤ gF := by rw [← hgF]; exact xw_1.size
              rw [hgF] at bA
              try rw [hgF]
              refine wpOrdT_keep (by rfl) (fun K hK => ?_)
              go_simp
              go_at_call 23
              refine (AF wA _ _ (hxr.trans xA) (o1.ints.ext hA) (o2.ints.ext hA) o1.flat o2.flat).mono ?_
              rintro e w_2 ⟨l2, r2, rfl, oL, oR, h2⟩
              obtain ⟨D1, d1, rfl, _, _⟩ := id oL.ints.form
              obtain ⟨D2, d2, rfl, _, _⟩ := id oR.ints.form
              replace oL := own_baseG oL (Nat.le_trans hxr.size xA.size)
              replace oR := own_baseG oR (Nat.le_trans hxr.size xA.size)
              have xw_2 : Ext w0 w_2 := xA.trans h2
              refine hK _ _ xw_2 ?_
              clear hK K
              try simp only [Act.put, List.setIfInBounds_toArray, List.set_cons_zero, List.set_cons_succ]
              replace bA := bA.ext h2
              iterate 3 (refine wpOrdT_read (v := ?_) (by rfl) (Or.inl ⟨by rfl, fun x hx => ?_⟩) ?_; rotate_left; (· go_simp; try with_reducible rfl); try simp only [Act.put, List.setIfInBounds_toArray, List.set_cons_zero, List.set_cons_succ])
              have y0 := bA.cell 0
              have z0 := bA.frozen 0
              have y1 := bA.cell 1
              have z1 := bA.frozen 1
              have y2 := bA.cell 2
              have z2 := bA.frozen 2
              simp only [List.getElem?_toArray, List.getElem?_cons_zero, List.getElem?_cons_succ] at y0 y1 y2
              have HA := Lib.hid (And.intro bA (And.intro xw_2 (And.intro oL oR)))
              have hsz := hxr.size
              clear bA oL oR
              refine wpOrdT_keep (by rfl) (fun K hK => ?_)
              go_simp
              refine hK _ _ (((HA.out.2.1.setCell nA _).setCell nA _).setCell nA _) ?_
              clear hK K
              try simp only [Act.put, List.setIfInBounds_toArray, List.set_cons_zero, List.set_cons_succ]
              refine wpOrdT_done ?_
              try simp only [List.drop_succ_cons, List.drop_zero]
              go_wp2_with fail
              go_meet
              have nA' : w8.heap.size ≤ gF := Nat.le_trans hsz nA
              exact ⟨_, D1, d1, D2, d2, rfl, rfl, Lib.hid ⟨((((hxr.trans HA.out.2.1).setCell nA' _).setCell nA' _).setCell nA' _), nA', (((HA.out.1.set_ 0 _).set_ 1 _).set_ 2 _), own_far3 HA.out.2.2.1 HA.out.1 (by decide) _ _ _, own_far3 HA.out.2.2.2 HA.out.1 (by decide) _ _ _⟩⟩
          · go_simp
            have bA : Blk (w0.alloc (.cells #[.int .i64 0, .slice none 0 0, .slice none 0 0] 29)) w0.heap.size 29 #[.int .i64 0, .slice none 0 0, .slice none 0 0] := Blk.new _ _ _ _ rfl
            have hA : Ext w0 (w0.alloc (.cells #[.int .i64 0, .slice none 0 0, .slice none 0 0] 29)) := Ext.alloc _ _
            have xA : Ext w0 (w0.alloc (.cells #[.int .i64 0, .slice none 0 0, .slice none 0 0] 29)) := xw0.trans hA
            refine hK (Ext w0) _ _ (fun _ h => h) xA ?_
            clear hK K
            try simp only [Act.put, List.setIfInBounds_toArray, List.set_cons_zero, List.set_cons_succ]
            generalize w0.alloc (.cells #[.int .i64 0, .slice none 0 0, .slice none 0 0] 29) = wA at *
            obtain ⟨gF, hgF⟩ : ∃ g, w0.heap.size = g := ⟨_, rfl⟩
            have nA : w0.heap.size ≤ gF := by rw [← hgF]; exact xw0.size
            rw [hgF] at bA
            try rw [hgF]
            refine wpOrdT_keep (by rfl) (fun K hK => ?_)
            go_simp
            go_at_call 11
            refine (r8Blank_c wA).mono ?_
            rintro e w_1 ⟨u, v, rfl, o1, o2, h1⟩
            obtain ⟨U1, j1, rfl, _, _⟩ := id o1.ints.form
            obtain ⟨U2, j2, rfl, _, _⟩ := id o2.ints.form
            have xw_1 : Ext w0 w_1 := xA.trans h1
            refine hK _ _ xw_1 ?_
            clear hK K
            try simp only [Act.put, List.setIfInBounds_toArray, List.set_cons_zero, List.set_cons_succ]
            replace bA := bA.ext h1
            refine wpOrdT_keep (by rfl) (fun K hK => ?_)
            go_simp
            go_at_call 23
            refine (AF w_1 _ _ (hxr.trans xw_1) (o1.ints.ext (Ext.refl _)) (o2.ints.ext (Ext.refl _)) o1.flat o2.flat).mono ?_
            rintro e w_2 ⟨l2, r2, rfl, oL, oR, h2⟩
            obtain ⟨D1, d1, rfl, _, _⟩ := id oL.ints.form
            obtain ⟨D2, d2, rfl, _, _⟩ := id oR.ints.form
            replace oL := own_baseG oL (Nat.le_trans hxr.size xw_1.size)
            replace oR := own_baseG oR (Nat.le_trans hxr.size xw_1.size)
            have xw_2 : Ext w0 w_2 := xw_1.trans h2
            refine hK _ _ xw_2 ?_
            clear hK K
            try simp only [Act.put, List.setIfInBounds_toArray, List.set_cons_zero, List.set_cons_succ]
            replace bA := bA.ext h2
            iterate 3 (refine wpOrdT_read (v := ?_) (by rfl) (Or.inl ⟨by rfl, fun x hx => ?_⟩) ?_; rotate_left; (· go_simp; try with_reducible rfl); try simp only [Act.put, List.setIfInBounds_toArray, List.set_cons_zero, List.set_cons_succ])
            have y0 := bA.cell 0
            have z0 := bA.frozen 0
            have y1 := bA.cell 1
            have z1 := bA.frozen 1
            have y2 := bA.cell 2
            have z2 := bA.frozen 2
            simp only [List.getElem?_toArray, List.getElem?_cons_zero, List.getElem?_cons_succ] at y0 y1 y2
            have HA := Lib.hid (And.intro bA (And.intro xw_2 (And.intro oL oR)))
            have hsz := hxr.size
            clear bA oL oR
            refine wpOrdT_keep (by rfl) (fun K hK => ?_)
            go_simp
            refine hK _ _ (((HA.out.2.1.setCell nA _).setCell nA _).setCell nA _) ?_
            clear hK K
            try simp only [Act.put, List.setIfInBounds_toArray, List.set_cons_zero, List.set_cons_succ]
            refine wpOrdT_done ?_
            try simp only [List.drop_succ_cons, List.drop_zero]
            go_wp2_with fail
            go_meet
            have nA' : w8.heap.size ≤ gF := Nat.le_trans hsz nA
            exact ⟨_, D1, d1, D2, d2, rfl, rfl, Lib.hid ⟨((((hxr.trans HA.out.2.1).setCell nA' _).setCell nA' _).setCell nA' _), nA', (((HA.out.1.set_ 0 _).set_ 1 _).set_ 2 _), own_far3 HA.out.2.2.1 HA.out.1 (by decide) _ _ _, own_far3 HA.out.2.2.2 HA.out.1 (by decide) _ _ _⟩⟩
        case rest =>
          clear AF m0 m1 m2 p0 p1 p2 k0
          obtain ⟨gS, S1, s1, S2, s2, rfl, rfl, HS⟩ := hcut
          generalize wc = w9 at *
          have x89 := HS.out.1
          have x29 : Ext V2 w9 := H8.out.2.2.2.2.1.trans x89
          have x69 : Ext V6 w9 := (H7.out.2.2.2.trans H8.out.2.2.1).trans x89
          have x59 : Ext w5 w9 := (H7.out.1.trans H8.out.2.2.1).trans x89
          have bF := H6.out.2.1.ext x69
          have bMx := HM.out.2.2.1.ext x29
          have m0 := bMx.cell 0
          have m1 := bMx.cell 1
          have m2 := bMx.cell 2
          simp only [List.getElem?_toArray, List.getElem?_cons_zero, List.getElem?_cons_succ] at m0 m1 m2
          clear bMx
          have f0 := bF.cell 0
          have f1 := bF.cell 1
          have f2 := bF.cell 2
          have f3 := bF.cell 3
          have f4 := bF.cell 4
          have f5 := bF.cell 5
          simp only [List.getElem?_toArray, List.getElem?_cons_zero, List.getElem?_cons_succ] at f0 f1 f2 f3 f4 f5
          have FA : Calls Tryz.prog 24 #[.agg #[.int .i64 m.sy, .int .i64 m.st, .slice Am m.rules.length cm], .agg #[.int .i64 f.q, .int .i64 f.hd, .int .i64 f.at_, .slice A1 f.ws.length c1, .slice A2 f.rs.length c2, .slice A3 f.os.length c3], .slice (some ⟨gc, 0, none⟩) cs.length cc] w9 (fun e w' => (∃ lv rv base, e = .returned (.tuple #[.agg #[.int .i64 C.q, lv, rv], .int .i64 0]) ∧ OwnInts base w' lv C.l ∧ OwnInts base w' rv C.r) ∧ Ext w9 w') := by
            have sh := hB.out.sh cs rfl (fun z hz => by rw [HO.out.1.hcs z hz]; exact Int.le_refl _)
            have := FormulaAt_c m (.slice Am m.rules.length cm) _ _ _ (.slice (some ⟨gc, 0, none⟩) cs.length cc) f cs w9 (H6.out.2.2.2.1.ext x69) (OwnInts.ints (ownsRow_ext H5.out.1 x59)) HM.out.1 (HM.out.2.1.ext x29) HO.out.1.hok sh.1 sh.2 (fun z hz => by rw [HO.out.1.hcs z hz]; omega)
            rw [hB.out.room, H8.out.2.2.2.1] at this
            exact this
          have H9 := Lib.hid (And.intro x29 (And.intro x69 (And.intro x59 x89)))
          clear x29 x69 x59 bF x89
          go_wp2_with fail
          refine FA.mono ?_
          rintro e w10 ⟨⟨lx, rx, bx0, rfl, oX, oY⟩, hx10⟩
          clear FA m0 m1 m2 f0 f1 f2 f3 f4 f5
          obtain ⟨X1, j1, rfl, _, _⟩ := id oX.ints.form
          obtain ⟨X2, j2, rfl, _, _⟩ := id oY.ints.form
          obtain ⟨V10, hV10⟩ : ∃ V, V = w10.alloc (.cells #[.int .i64 C.q, .slice X1 C.l.length j1, .slice X2 C.r.length j2] 29) := ⟨_, rfl⟩
          obtain ⟨bx, hbx⟩ : ∃ b, w10.heap.size = b := ⟨_, rfl⟩
          have e10 : Ext w10 V10 := by rw [hV10]; exact Ext.alloc _ _
          have bX : Blk V10 bx 29 #[.int .i64 C.q, .slice X1 C.l.length j1, .slice X2 C.r.length j2] := by rw [hV10]; exact Blk.new _ _ _ _ hbx
          have x910 : Ext w9 V10 := hx10.trans e10
          have bS := HS.out.2.2.1.ext x910
          have q0 := bX.cell 0
          have q1 := bX.cell 1
          have q2 := bX.cell 2
          have t0 := bS.cell 0
          have t1 := bS.cell 1
          have t2 := bS.cell 2
          simp only [List.getElem?_toArray, List.getElem?_cons_zero, List.getElem?_cons_succ] at q0 q1 q2 t0 t1 t2
          have RQ := r8Config_c V10 C.q _ _ _ _ C.l C.r (OwnInts.ints (ownsRow_ext HS.out.2.2.2.1 x910)) (OwnInts.ints (ownsRow_ext HS.out.2.2.2.2 x910)) (OwnInts.ints (ownsRow_ext oX e10)) (OwnInts.ints (ownsRow_ext oY e10))
          have hneq : ((l'.length : Int) != (cs.length : Int)) = false := by rw [hB.out.len]; simp
          have H10 := Lib.hid x910
          rw [hV10] at q0 q1 q2 t0 t1 t2
          clear oX oY hx10 e10 bX bS x910
          go_wp2_with fail
          try rw [← hV10]
          try rw [hbx]
          clear hV10 hbx q0 q1 q2 t0 t1 t2
          refine RQ.mono ?_
          rintro e w11 ⟨rfl, hx11⟩
          clear RQ
          have x911 := H10.out.trans hx11
          clear hx11
          have hlow : gc0 ≤ gc ∧ V3.heap.size ≤ gc0 ∧ gc < w5.heap.size := ⟨H5.out.2.2.2.1, H5.out.2.2.2.2, (H5.out.1.lt gc rfl).2⟩
          have H11 := Lib.hid (And.intro (ownsRow_ext H5.out.1 (H9.out.2.2.1.trans x911)) (And.intro x911 hlow))
          have own11 : Hid (w11.ownsRow gc0 2 1 (.slice (some ⟨gc, 0, none⟩) cs.length cc) cs.length (ivs cs)) := Lib.hid H11.out.1
          clear x911 hlow
          go_wp2_with fail
          clear hneq
          go_loopw [19] (fun iv wr => ∃ (k : Nat) (ys : List Int), k ≤ cs.length ∧ iv = .int .i64 (k : Int) ∧ Hid (w11.grownBy wr (some gc)) ∧ Hid (wr.ownsRow gc0 2 1 (.slice (some ⟨gc, 0, none⟩) cs.length cc) cs.length (ivs ys)) ∧ Hid (ys.length = cs.length) ∧ Hid (∀ j, (h : j < ys.length) → 2 ≤ ys[j] ∧ ys[j] ≤ 42 ∧ (k ≤ j → ys[j] = 2))) (fun iv _ => cs.length - (intOf iv).toNat)
          case atStart => exact ⟨0, cs, Nat.zero_le _, rfl, Lib.hid (ext_grownBy (Ext.refl _) _), own11, Lib.hid rfl, Lib.hid (fun j hj => by have := HO.out.1.hcs _ (List.getElem_mem hj); rw [this]; exact ⟨by omega, by omega, fun _ => rfl⟩)⟩
          case round =>
            obtain ⟨k, ys, hk, rfl, HGR, HOW, HYL, HYS⟩ := hrel
            by_cases hlt : k < cs.length
            · have hd : decide ((k : Int) < (cs.length : Int)) = true := decide_eq_true (by omega)
              have ol : OwnInts base wr (.slice Al l'.length cl) l' := own_keptG (ownsRow_ext H8.out.1 (H9.out.2.2.2.trans H11.out.2.1)) HGR.out (by have := H8.out.2.1; have := H7.out.1.size; have := H11.out.2.2; omega)
              have hkl : k < l'.length := by rw [hB.out.len]; exact hlt
              obtain ⟨bl, ofl, rfl, hcl⟩ := ol.ints.at hkl
              have cl0 := hcl k hkl
              have hzb := hB.out.low l'[k] (List.getElem_mem _)
              have hky : k < ys.length := by rw [HYL.out]; exact hlt
              obtain ⟨b', off', e', hcy⟩ := Row.at (ownsRow_row HOW.out) hlt
              injection e' with e'
              injection e' with e1 e2
              subst e1 e2
              have cy0 := hcy k (by omega)
              rw [ivs_get ys k hky, (HYS.out k hky).2.2 (Nat.le_refl _), Nat.zero_add] at cy0
              have hlk : (k : Int) < (l'.length : Int) := by omega
              generalize l'[k] = z at *
              have hz0 : decide (z < 0) = false := decide_eq_false (by omega)
              clear hcl ol hcy
              by_cases hz40 : 40 < z
              · have hzd : decide (40 < z) = true := decide_eq_true hz40
                go_wp2
                go_ret
                exact ⟨rfl, (HM.out.2.2.2.trans (H9.out.1.trans H11.out.2.1)).grown HGR.out (fun j hj => by injection hj with hj; have := H11.out.2.2; have := (HM.out.2.2.2.trans HO.out.2.2.2.2.2.2).size; omega)⟩
              · have hzd : decide (40 < z) = false := decide_eq_false hz40
                have hw22 : IntKind.i64.wrap (2 + z) = 2 + z := IntWalk.i64_in _ (by omega)
                have hwk : IntKind.i64.wrap ((k : Int) + 1) = ((k + 1 : Nat) : Int) := by rw [show (k : Int) + 1 = ((k + 1 : Nat) : Int) by omega]; exact IntWalk.i64_in _ (by omega)
                have hlk2 : (k : Int) < (cs.length : Int) := by omega
                obtain ⟨cur, bC⟩ : ∃ cur, Blk wr gc 2 cur := by
                  rcases HOW.out.2 with ⟨h, _⟩ | ⟨g', cap, cur, h, _, hh, _⟩
                  · cases h
                  · injection h with h
                    injection h with h
                    injection h with h
                    subst h
                    exact ⟨_, hh⟩
                have zf := bC.frozen k
                go_upto_region 22 with fail
                refine wp_region_ordT 10 (readsT [0, 1, 2, 3, 4, 5, 6, 7, 8, 9] .done) (by kernel_rfl) (by kernel_rfl) (fun _ _ _ _ _ h => h) ?_
                simp only [readsT]
                iterate 10 (refine wpOrdT_read (v := ?_) (by rfl) (Or.inl ⟨by rfl, fun x hx => ?_⟩) ?_; rotate_left; (· have cl0 := hx.cell cl0; have cy0 := hx.cell cy0; go_simp; try with_reducible rfl); try simp only [Act.put, List.setIfInBounds_toArray, List.set_cons_zero, List.set_cons_succ])
                refine wpOrdT_done ?_
                try simp only [List.drop_succ_cons, List.drop_zero]
                have cy0 : wr.drew.cell? ⟨gc, k, none⟩ = some (.int .i64 2) := cy0
                have zf : wr.drew.frozen? ⟨gc, k, none⟩ = false := zf
                have HCY := Lib.hid (And.intro hzb hky)
                clear cl0 cy0 zf bC
                rename_i cy1 zf1 _
                go_wp2
                go_roundw
                case rel =>
                  refine ⟨k + 1, ys.set k (2 + z), by omega, by go_num, Lib.hid (grownBy_trans (grownBy_trans HGR.out (grownBy_setCell wr ⟨gc, k, none⟩ (.int .i64 (2 + z)))) (ext_grownBy (Ext.drew _) _)), Lib.hid ?_, Lib.hid (by rw [List.length_set]; exact HYL.out), Lib.hid (fun j hj => ?_)⟩
                  · have h5 := (World.ownsRow.stored HOW.out k (.int .i64 (2 + z))).1
                    have e5 : ivs (ys.set k (2 + z)) = (ivs ys).set k (.int .i64 (2 + z)) := by unfold ivs; rw [List.map_set]
                    rw [e5]
                    exact h5
                  · have hj2 : j < ys.length := by rw [List.length_set] at hj; exact hj
                    by_cases e : k = j
                    · subst e
                      rw [List.getElem_set_self]
                      exact ⟨by omega, by omega, fun h => by omega⟩
                    · rw [List.getElem_set_ne e]
                      obtain ⟨h1, h2, h3⟩ := HYS.out j hj2
                      exact ⟨h1, h2, fun h => h3 (by omega)⟩
                case measure => simp [intOf]; omega
            · obtain rfl : k = cs.length := by omega
              have hdn : ¬ ((cs.length : Int) < (cs.length : Int)) := by omega
              obtain ⟨hl1, hl2, hl3⟩ := H11.out.2.2
              have x2r : Ext V2 wr := (H9.out.1.trans H11.out.2.1).grown HGR.out (fun j hj => by injection hj with hj; have := HO.out.2.2.2.2.2.2.size; omega)
              have oFr := (H6.out.1.ext (H9.out.2.1.trans H11.out.2.1)).kept HGR.out hl3
              have bF11 := H6.out.2.1.ext (H9.out.2.1.trans H11.out.2.1)
              have bF : Blk wr bf 49 #[.int .i64 f.q, .int .i64 f.hd, .int .i64 f.at_, .slice A1 f.ws.length c1, .slice A2 f.rs.length c2, .slice A3 f.os.length c3] := (HGR.out.block bf bF11.lt (fun e => by injection e with e; have := H6.out.2.2.2.2; omega)).trans bF11
              have bS11 := HS.out.2.2.1.ext H11.out.2.1
              have bS : Blk wr gS 29 #[.int .i64 C.q, .slice S1 C.l.length s1, .slice S2 C.r.length s2] := (HGR.out.block gS bS11.lt (fun e => by injection e with e; have := HS.out.2.1; have := H8.out.2.2.1.size; have := H7.out.1.size; omega)).trans bS11
              have hlS : gc < w8.heap.size := by have := H8.out.2.2.1.size; have := H7.out.1.size; omega
              have oSl := own_keptG (ownsRow_ext HS.out.2.2.2.1 H11.out.2.1) HGR.out hlS
              have oSr := own_keptG (ownsRow_ext HS.out.2.2.2.2 H11.out.2.1) HGR.out hlS
              have hy42 : ∀ z ∈ ys, 2 ≤ z ∧ z ≤ 42 := fun z hz => by
                obtain ⟨j, hj, rfl⟩ := List.getElem_of_mem hz
                obtain ⟨h1, h2, _⟩ := HYS.out j hj
                exact ⟨h1, h2⟩
              have sh := hB.out.sh ys HYL.out (fun z hz => (hy42 z hz).1)
              obtain ⟨⟨D, yc⟩, hY⟩ : ∃ Y, roomR (foCfg f.q (tapeO f ys) (headO f ys)) = Y := ⟨_, rfl⟩
              have hyc : yc = 0 ∨ yc = 5 := by
                unfold roomR at hY
                split at hY
                · injection hY with _ h; exact .inl h.symm
                · injection hY with _ h; exact .inr h.symm
              have FA2 : Calls Tryz.prog 24 #[.agg #[.int .i64 m.sy, .int .i64 m.st, .slice Am m.rules.length cm], .agg #[.int .i64 f.q, .int .i64 f.hd, .int .i64 f.at_, .slice A1 f.ws.length c1, .slice A2 f.rs.length c2, .slice A3 f.os.length c3], .slice (some ⟨gc, 0, none⟩) cs.length cc] wr (fun e w' => (∃ lv rv base, e = .returned (.tuple #[.agg #[.int .i64 D.q, lv, rv], .int .i64 yc]) ∧ OwnInts base w' lv D.l ∧ OwnInts base w' rv D.r) ∧ Ext wr w') := by
                have := FormulaAt_c m (.slice Am m.rules.length cm) _ _ _ (.slice (some ⟨gc, 0, none⟩) cs.length cc) f ys wr oFr.fov (by unfold Ints; rw [HYL.out]; exact ownsRow_row HOW.out) HM.out.1 (HM.out.2.1.ext x2r) HO.out.1.hok sh.1 sh.2 (fun z hz => by have := hy42 z hz; omega)
                rw [hY] at this
                exact this
              have bMx := HM.out.2.2.1.ext x2r
              have m0 := bMx.cell 0
              have m1 := bMx.cell 1
              have m2 := bMx.cell 2
              simp only [List.getElem?_toArray, List.getElem?_cons_zero, List.getElem?_cons_succ] at m0 m1 m2
              clear bMx
              have f0 := bF.cell 0
              have f1 := bF.cell 1
              have f2 := bF.cell 2
              have f3 := bF.cell 3
              have f4 := bF.cell 4
              have f5 := bF.cell 5
              simp only [List.getElem?_toArray, List.getElem?_cons_zero, List.getElem?_cons_succ] at f0 f1 f2 f3 f4 f5
              have HR2 := Lib.hid (And.intro x2r (And.intro bS (And.intro oSl oSr)))
              clear x2r oFr bF11 bF bS11 bS hlS oSl oSr hy42 sh hY hl1 hl2 hl3
              go_wp2_with fail
              refine FA2.mono ?_
              rintro e w12 ⟨⟨ly, ry, by0, rfl, oLy, oRy⟩, hx12⟩
              clear FA2 m0 m1 m2 f0 f1 f2 f3 f4 f5
              obtain ⟨Y1, y1, rfl, _, _⟩ := id oLy.ints.form
              obtain ⟨Y2, y2, rfl, _, _⟩ := id oRy.ints.form
              rcases hyc with rfl | rfl
              case inr =>
                have HX12 := Lib.hid hx12
                clear hx12
                go_wp2
                go_ret
                exact ⟨rfl, ((HM.out.2.2.2.trans HR2.out.1).trans HX12.out).trans (Ext.alloc _ _)⟩
              obtain ⟨V12, hV12⟩ : ∃ V, V = w12.alloc (.cells #[.int .i64 D.q, .slice Y1 D.l.length y1, .slice Y2 D.r.length y2] 29) := ⟨_, rfl⟩
              obtain ⟨by_, hby⟩ : ∃ b, w12.heap.size = b := ⟨_, rfl⟩
              obtain ⟨V13, hV13⟩ : ∃ V, V = (w12.alloc (.cells #[.int .i64 D.q, .slice Y1 D.l.length y1, .slice Y2 D.r.length y2] 29)).alloc (.cells #[.int .i64 C.q, .slice S1 C.l.length s1, .slice S2 C.r.length s2] 29) := ⟨_, rfl⟩
              have e12 : Ext w12 V12 := by rw [hV12]; exact Ext.alloc _ _
              have e13 : Ext V12 V13 := by rw [hV13, hV12]; exact Ext.alloc _ _
              have bY : Blk V12 by_ 29 #[.int .i64 D.q, .slice Y1 D.l.length y1, .slice Y2 D.r.length y2] := by rw [hV12]; exact Blk.new _ _ _ _ hby
              have bW : Blk V13 (by_ + 1) 29 #[.int .i64 C.q, .slice S1 C.l.length s1, .slice S2 C.r.length s2] := by rw [hV13]; exact Blk.new _ _ _ _ (by simp [hby])
              have hs12 : V12.heap.size = by_ + 1 := by rw [hV12]; simp [hby]
              have x12 : Ext wr V12 := hx12.trans e12
              have bS12 := HR2.out.2.1.ext hx12
              have t0 := (Ext.alloc w12 (.cells #[.int .i64 D.q, .slice Y1 D.l.length y1, .slice Y2 D.r.length y2] 29)).cell (bS12.cell 0)
              have t1 := (Ext.alloc w12 (.cells #[.int .i64 D.q, .slice Y1 D.l.length y1, .slice Y2 D.r.length y2] 29)).cell (bS12.cell 1)
              have t2 := (Ext.alloc w12 (.cells #[.int .i64 D.q, .slice Y1 D.l.length y1, .slice Y2 D.r.length y2] 29)).cell (bS12.cell 2)
              have oY1 : OwnInts by0 V12 (.slice Y1 D.l.length y1) D.l := ownsRow_ext oLy e12
              have oY2 : OwnInts by0 V12 (.slice Y2 D.r.length y2) D.r := ownsRow_ext oRy e12
              have HCF : Hid (confB m (cfgI m C 0) = true) := Lib.hid (by
                have := conf_run_blank HM.out.1 HO.out.1.hE
                rw [H8.out.2.2.2.1] at this
                exact this)
              have H12 := Lib.hid (And.intro bY (And.intro hs12 (And.intro x12 (And.intro oY1 oY2))))
              have HE13 := Lib.hid e13
              have HBW : Hid (Blk V13 (by_ + 1) 29 #[.int .i64 (cfgI m C 0).q, .slice S1 (cfgI m C 0).l.length s1, .slice S2 (cfgI m C 0).r.length s2]) := Lib.hid bW
              have HS13 : Hid (OwnInts w8.heap.size V13 (.slice S1 (cfgI m C 0).l.length s1) (cfgI m C 0).l ∧ OwnInts w8.heap.size V13 (.slice S2 (cfgI m C 0).r.length s2) (cfgI m C 0).r) := Lib.hid ⟨ownsRow_ext HR2.out.2.2.1 (x12.trans e13), ownsRow_ext HR2.out.2.2.2 (x12.trans e13)⟩
              clear e12 e13 bY bW hs12 x12 bS12 oY1 oY2 oLy oRy hx12 hV12
              go_wp2_with fail
              try rw [← hV13]
              try rw [hby]
              clear hV13 hby t0 t1 t2
              go_loopw [23] (fun iv wq => ∃ (t : Nat) (E1 : Option Addr) (e1 : Nat) (E2 : Option Addr) (e2 be : Nat), t ≤ 1200 ∧ iv = .int .i64 (t : Int) ∧ Hid (confB m (cfgI m C t) = true) ∧ Hid (Ext V12 wq) ∧ Hid (Blk wq (by_ + 1) 29 #[.int .i64 (cfgI m C t).q, .slice E1 (cfgI m C t).l.length e1, .slice E2 (cfgI m C t).r.length e2]) ∧ Hid (OwnInts be wq (.slice E1 (cfgI m C t).l.length e1) (cfgI m C t).l ∧ OwnInts be wq (.slice E2 (cfgI m C t).r.length e2) (cfgI m C t).r)) (fun iv _ => 1200 - (intOf iv).toNat)
              case atStart => exact ⟨0, S1, s1, S2, s2, _, by omega, rfl, HCF, HE13, HBW, HS13⟩
              case round =>
                obtain ⟨t, E1, e1, E2, e2, be, ht, rfl, HCT, HEQ, HBQ, HOQ⟩ := hrel
                by_cases hlt : t < 1200
                · have hd : decide ((t : Int) < 1200) = true := decide_eq_true (by omega)
                  have hti : (t : Int) < 1200 := by omega
                  have x2q : Ext V2 wr := (HR2.out.1.trans H12.out.2.2.1).trans HEQ.out
                  have bMx := HM.out.2.2.1.ext x2q
                  have m0 := bMx.cell 0
                  have m1 := bMx.cell 1
                  have m2 := bMx.cell 2
                  simp only [List.getElem?_toArray, List.getElem?_cons_zero, List.getElem?_cons_succ] at m0 m1 m2
                  clear bMx
                  have bQ := HBQ.out
                  have q0 := bQ.cell 0
                  have q1 := bQ.cell 1
                  have q2 := bQ.cell 2
                  simp only [List.getElem?_toArray, List.getElem?_cons_zero, List.getElem?_cons_succ] at q0 q1 q2
                  have hno := hB.out.no t
                  rw [H8.out.2.2.2.1] at hno
                  have HNO := Lib.hid hno
                  have hnx : cfgI m C (t + 1) = stepI (lookI m (cfgI m C t)) (cfgI m C t) := rfl
                  have HNX := Lib.hid hnx
                  have SM := StepMachine_c (.slice Am m.rules.length cm) m (cfgI m C t) (.slice E1 (cfgI m C t).l.length e1) (.slice E2 (cfgI m C t).r.length e2) wr (HM.out.2.1.ext x2q) HOQ.out.1.ints HOQ.out.2.ints HOQ.out.1.flat HOQ.out.2.flat HM.out.1 HCT.out hno
                  rw [← hnx] at SM
                  generalize hNX : cfgI m C (t + 1) = N1 at *
                  have HN1 := Lib.hid hNX
                  clear bQ hno hnx hNX
                  have HXQ := Lib.hid x2q
                  clear x2q
                  go_wp2_with fail
                  refine SM.mono ?_
                  rintro e wz ⟨hxz, rfl | ⟨hfit, lz, rz, rfl, oL, oR⟩⟩
                  · have HXZ := Lib.hid hxz
                    clear hxz SM m0 m1 m2 q0 q1 q2
                    go_wp2
                    go_ret
                    exact ⟨rfl, ((HM.out.2.2.2.trans HXQ.out).trans HXZ.out).trans (Ext.alloc _ _)⟩
                  · obtain ⟨F1, j3, rfl, _, _⟩ := id oL.ints.form
                    obtain ⟨F2, j4, rfl, _, _⟩ := id oR.ints.form
                    have x12z : Ext V12 wz := HEQ.out.trans hxz
                    have bQz := HBQ.out.ext hxz
                    have q0 := bQz.cell 0
                    have q1 := bQz.cell 1
                    have q2 := bQz.cell 2
                    have z0 := bQz.frozen 0
                    have z1 := bQz.frozen 1
                    have z2 := bQz.frozen 2
                    have bYz := H12.out.1.ext x12z
                    have y0 := bYz.cell 0
                    have y1 := bYz.cell 1
                    have y2 := bYz.cell 2
                    simp only [List.getElem?_toArray, List.getElem?_cons_zero, List.getElem?_cons_succ] at q0 q1 q2 y0 y1 y2
                    have hbl := bQz.lt
                    have hwt : IntKind.i64.wrap ((t : Int) + 1) = ((t + 1 : Nat) : Int) := by rw [show (t : Int) + 1 = ((t + 1 : Nat) : Int) by omega]; exact IntWalk.i64_in _ (by omega)
                    have HZ := Lib.hid (And.intro x12z (And.intro bQz (And.intro oL (And.intro oR (And.intro hfit hxz)))))
                    clear SM m0 m1 m2 oL oR hfit hxz x12z bQz bYz
                    obtain ⟨Wf, hWf⟩ : ∃ W, W = (((wz.setCell ⟨by_ + 1, 0, none⟩ (.int .i64 N1.q)).setCell ⟨by_ + 1, 1, none⟩ (.slice F1 N1.l.length j3)).setCell ⟨by_ + 1, 2, none⟩ (.slice F2 N1.r.length j4)).alloc (.cells #[.int .i64 N1.q, .slice F1 N1.l.length j3, .slice F2 N1.r.length j4] 29) := ⟨_, rfl⟩
                    have hle : V12.heap.size ≤ by_ + 1 := by rw [H12.out.2.1]; exact Nat.le_refl _
                    have x12f : Ext V12 Wf := by rw [hWf]; exact (((HZ.out.1.setCell hle _).setCell hle _).setCell hle _).trans (Ext.alloc _ _)
                    have bQf : Blk Wf (by_ + 1) 29 #[.int .i64 N1.q, .slice F1 N1.l.length j3, .slice F2 N1.r.length j4] := by rw [hWf]; exact (((HZ.out.2.1.set_ 0 _).set_ 1 _).set_ 2 _).alloc _
                    have oLf : OwnInts wr.heap.size Wf (.slice F1 N1.l.length j3) N1.l := by rw [hWf]; exact ownsRow_ext (own_far3 HZ.out.2.2.1 HZ.out.2.1 (by decide) _ _ _) (Ext.alloc _ _)
                    have oRf : OwnInts wr.heap.size Wf (.slice F2 N1.r.length j4) N1.r := by rw [hWf]; exact ownsRow_ext (own_far3 HZ.out.2.2.2.1 HZ.out.2.1 (by decide) _ _ _) (Ext.alloc _ _)
                    have RG := r8ConfigG_c Wf N1 D _ _ _ _ oLf.ints oRf.ints (OwnInts.ints (ownsRow_ext H12.out.2.2.2.1 x12f)) (OwnInts.ints (ownsRow_ext H12.out.2.2.2.2 x12f))
                    have bYf := H12.out.1.ext x12f
                    have n0' := bQf.cell 0
                    have n1' := bQf.cell 1
                    have n2' := bQf.cell 2
                    have n3' := bYf.cell 0
                    have n4' := bYf.cell 1
                    have n5' := bYf.cell 2
                    simp only [List.getElem?_toArray, List.getElem?_cons_zero, List.getElem?_cons_succ] at n0' n1' n2' n3' n4' n5'
                    have HW := Lib.hid (And.intro x12f (And.intro bQf (And.intro oLf oRf)))
                    go_upto_region 34 with fail
                    try rw [← hWf]
                    clear hWf x12f bQf oLf oRf bYf q0 q1 q2 y0 y1 y2 z0 z1 z2 hbl hle
                    go_wp2_with fail
                    refine RG.mono ?_
                    rintro e wy ⟨⟨bb, rfl⟩, hxy⟩
                    have HXY := Lib.hid hxy
                    clear RG hxy n0' n1' n2' n3' n4' n5'
                    cases bb with
                    | true =>
                      go_wp2
                      go_ret
                      exact ⟨rfl, ((HM.out.2.2.2.trans (HR2.out.1.trans H12.out.2.2.1)).trans HW.out.1).trans HXY.out⟩
                    | false =>
                      go_wp2
                      go_roundw
                      case rel =>
                        refine ⟨t + 1, F1, j3, F2, j4, wr.heap.size, by omega, by go_num, Lib.hid ?_, Lib.hid (HW.out.1.trans HXY.out), ?_, ?_⟩
                        · exact conf_next HM.out.1 HCT.out HNO.out (by have h := HZ.out.2.2.2.2.1; rw [← HN1.out] at h; exact h)
                        · rw [HN1.out]
                          exact Lib.hid (HW.out.2.1.ext HXY.out)
                        · rw [HN1.out]
                          exact Lib.hid ⟨ownsRow_ext HW.out.2.2.1 HXY.out, ownsRow_ext HW.out.2.2.2 HXY.out⟩
                      case measure => simp [intOf]; omega
                · obtain rfl : t = 1200 := by omega
                  have hti : ¬ ((1200 : Int) < 1200) := by omega
                  go_wp2
                  go_ret
                  exact ⟨rfl, (HM.out.2.2.2.trans (HR2.out.1.trans H12.out.2.2.1)).trans HEQ.out⟩
end Go.Proofs.YtojiammendjpkaaGreat
end
