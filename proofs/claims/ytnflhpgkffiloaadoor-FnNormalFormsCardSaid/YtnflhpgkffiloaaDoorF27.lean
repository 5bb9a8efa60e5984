/- Contract of the laws' r8Config at equal configurations.
Contracts of the reference's draws of machines that are decided. Written by mkshh.py.
The walk of the law on the normal forms of formula tapes. -/
import Derived.Test.YtnflhpgkffiloaaDoorF26
import Derived.Test.YtnflhpgkffiloaaDoorF09
import Derived.Test.YtnflhpgkffiloaaDoorF25
section
set_option linter.unusedSimpArgs false
set_option linter.unusedVariables false
namespace Go.Proofs.YtnflhpgkffiloaaDoor
open Go Go.RowKit Go.Proofs
set_option maxHeartbeats 400000
set_option maxRecDepth 20000 in
set_option maxHeartbeats 2000000 in
theorem r8Config_c (w : World) (q : Int) (lv rv lv2 rv2 : Value) (l r : List Int) (hl : Ints w lv l) (hr : Ints w rv r) (hl2 : Ints w lv2 l) (hr2 : Ints w rv2 r) :
    Calls Tryd.prog 10 #[.agg #[.int .i64 q, lv, rv], .agg #[.int .i64 q, lv2, rv2]] w fun e w' => e = .returned (.bool true) ∧ Ext w w' := by
  obtain ⟨A1, c1, rfl, _, _⟩ := id hl.form
  obtain ⟨A2, c2, rfl, _, _⟩ := id hr.form
  obtain ⟨A3, c3, rfl, _, _⟩ := id hl2.form
  obtain ⟨A4, c4, rfl, _, _⟩ := id hr2.form
  obtain ⟨W, hW⟩ : ∃ W, W = (w.alloc (.cells #[.int .i64 q, .slice A1 l.length c1, .slice A2 r.length c2] 37)).alloc (.cells #[.int .i64 q, .slice A3 l.length c3, .slice A4 r.length c4] 37) := ⟨_, rfl⟩
  have hX : Ext w W := by rw [hW]; exact (Ext.alloc _ _).trans (Ext.alloc _ _)
  have b1 : Blk W w.heap.size 37 #[.int .i64 q, .slice A1 l.length c1, .slice A2 r.length c2] := by rw [hW]; exact (Blk.new _ _ _ _ rfl).alloc _
  have b2 : Blk W (w.heap.size + 1) 37 #[.int .i64 q, .slice A3 l.length c3, .slice A4 r.length c4] := by rw [hW]; exact Blk.new _ _ _ _ (by simp)
  have p0 := b1.cell 0
  have p1 := b1.cell 1
  have p2 := b1.cell 2
  have q0 := b2.cell 0
  have q1 := b2.cell 1
  have q2 := b2.cell 2
  simp only [List.getElem?_toArray, List.getElem?_cons_zero, List.getElem?_cons_succ] at p0 p1 p2 q0 q1 q2
  rw [hW] at p0 p1 p2 q0 q1 q2
  have HL := Lib.hid (hl.ext hX)
  have HR := Lib.hid (hr.ext hX)
  have HL2 := Lib.hid (hl2.ext hX)
  have HR2 := Lib.hid (hr2.ext hX)
  go_enter Tryd.func10, Tryd.ntmps10
  go_wp2_with fail
  rw [← hW]
  clear hW p0 p1 p2 q0 q1 q2
  refine (r8Same_c W _ _ l l HL.out HL2.out).mono ?_
  rintro e w2 ⟨rfl, hx2⟩
  rw [lEq_true rfl]
  have b1' := b1.ext hx2
  have b2' := b2.ext hx2
  have p2 := b1'.cell 2
  have q2 := b2'.cell 2
  simp only [List.getElem?_toArray, List.getElem?_cons_zero, List.getElem?_cons_succ] at p2 q2
  go_wp2_with fail
  refine (r8Same_c w2 _ _ r r (HR.out.ext hx2) (HR2.out.ext hx2)).mono ?_
  rintro e w3 ⟨rfl, hx3⟩
  rw [lEq_true rfl]
  go_wp2
  go_ret
  exact ⟨rfl, (hX.trans hx2).trans hx3⟩
end Go.Proofs.YtnflhpgkffiloaaDoor
end
section
set_option linter.unusedSimpArgs false
set_option linter.unusedVariables false
namespace Go.Proofs.YtnflhpgkffiloaaDoor
open Go Go.RowKit Go.Proofs
set_option maxHeartbeats 400000
def known25 : List ByteArray := [⟨#[49, 82, 48, 44, 49, 82, 48]⟩, ⟨#[48, 82, 48, 44, 48, 82, 48]⟩, ⟨#[49, 76, 48, 44, 48, 82, 48]⟩, ⟨#[49, 82, 49, 44, 45, 45, 45, 59, 49, 76, 48, 44, 48, 82, 49]⟩, ⟨#[49, 82, 49, 44, 48, 76, 48, 59, 49, 76, 48, 44, 49, 82, 49]⟩, ⟨#[48, 76, 49, 44, 49, 82, 48, 59, 49, 82, 48, 44, 48, 76, 49]⟩, ⟨#[49, 82, 49, 44, 48, 82, 49, 59, 49, 76, 48, 44, 48, 76, 48]⟩, ⟨#[49, 76, 49, 44, 49, 76, 49, 59, 49, 82, 48, 44, 48, 82, 48]⟩, ⟨#[49, 82, 49, 44, 49, 76, 49, 59, 48, 76, 48, 44, 48, 82, 49]⟩]
theorem known25_ok : (known25.all fun x => parseOk x && !(parseM x).rules.isEmpty && decide ((parseM x).rules.length ≤ 600) && machOk (parseM x)) = true := by decide +kernel
set_option maxRecDepth 20000 in
set_option maxHeartbeats 2000000 in
theorem l25DrawMachine_c (B b n : Nat) (w : World) (h : Src B w b n) (hB : B ≤ w.heap.size) (hn : n ≤ 100000000) :
    Calls Tryd.prog 30 #[.pointer (some ⟨b, 0, none⟩)] w (MRes B w b n 600) := by
  have hbl := h.lt
  obtain ⟨W, hW⟩ : ∃ W, W = w.alloc (.cells #[.int .i64 0, .int .i64 0, .slice none 0 0] 26) := ⟨_, rfl⟩
  have hX : Ext w W := by rw [hW]; exact Ext.alloc _ _
  have bR : Blk W w.heap.size 26 #[.int .i64 0, .int .i64 0, .slice none 0 0] := by rw [hW]; exact Blk.new _ _ _ _ rfl
  have hsW := h.ext hX
  have HK := Lib.hid known25_ok
  go_enter Tryd.func30, Tryd.ntmps30
  go_wp2_with fail
  rw [← hW]
  clear hW
  refine (one_c B b n 3 W hsW (by omega)).mono ?_
  rintro e w1 ⟨⟨q, rfl⟩, hs1, hg1⟩
  have hW1 : w.grownBy w1 (some b) := grownBy_trans (ext_grownBy hX _) hg1
  have b1 := blk_src hsW hg1 bR (by decide)
  have z1 := hW1.size
  generalize hg : w.heap.size = g at *
  have HG := Lib.hid hg
  clear hg
  cases q with
  | true =>
    obtain ⟨V, hV⟩ : ∃ V, V = w1.alloc (.cells (known25.map Value.string).toArray 9) := ⟨_, rfl⟩
    have hXV : Ext w1 V := by rw [hV]; exact Ext.alloc _ _
    have oL : OwnStrs w1.heap.size V (.slice (some ⟨w1.heap.size, 0, none⟩) 9 9) known25 := by
      refine ⟨rfl, .inr ⟨w1.heap.size, 9, (known25.map Value.string).toArray, rfl, Nat.le_refl _, ?_, Nat.le_refl _, by unfold maxLen; omega, rfl, rfl⟩⟩
      rw [hV]
      exact Blk.new _ _ _ _ rfl
    simp only [known25, List.map_cons, List.map_nil] at hV
    go_wp2_with fail
    rw [← hV]
    clear hV
    refine (text_c B w1.heap.size b _ _ known25 V (hs1.ext hXV) oL (by decide) (by omega)).mono ?_
    rintro e w2 ⟨⟨x, rfl, hx⟩, hs2, hg2⟩
    have hk := (List.all_eq_true.1 HK.out) x hx
    simp only [Bool.and_eq_true, Bool.not_eq_true', decide_eq_true_eq] at hk
    obtain ⟨⟨⟨hp, hne⟩, hle⟩, hmo⟩ := hk
    have HMO := Lib.hid hmo
    have HLE := Lib.hid hle
    have b2 := blk_src (hs1.ext hXV) hg2 (b1.ext hXV) (by decide)
    have HP := Lib.hid hp
    have HNE : Hid (0 < (parseM x).rules.length) := by
      unfold Hid
      cases hl : (parseM x).rules with
      | nil => rw [hl] at hne; simp at hne
      | cons _ _ => simp
    have hW2 : w.grownBy w2 (some b) := grownBy_trans (grownBy_trans hW1 (ext_grownBy hXV _)) hg2
    have z2 := hW2.size
    clear hp hne hx hle hmo oL
    go_wp2_with fail
    refine (l05Read_c x w2 HP.out).mono ?_
    rintro e w3 ⟨⟨rv, rfl, ho2⟩, hx3⟩
    generalize parseM x = m at *
    obtain ⟨A, c, rfl, k1, k2, _⟩ := (ownsRow_row ho2).form
    have b3 := b2.ext hx3
    have hlt3 := b3.lt
    have d := b3.cell
    have f := b3.frozen
    have hs3 := hs2.ext hx3
    go_wp2
    obtain ⟨r1, r2, r3⟩ := done3 hs3 (grownBy_trans hW2 (ext_grownBy hx3 _)) hB hbl HG.out ho2 b3 (.int .i64 m.sy) (.int .i64 m.st) (.slice A m.rules.length c)
    refine bodyPost_ret (v := .agg #[.int .i64 m.sy, .int .i64 m.st, .slice A m.rules.length c]) ?_ rfl ⟨⟨m, _, rfl, ?_, HNE.out, HLE.out, HMO.out⟩, (r1.ext (Ext.alloc _ _)).mono (by omega), grownBy_trans r2 (ext_grownBy (Ext.alloc _ _) _)⟩
    · have d' := ((((b3.set_ 0 (.int .i64 m.sy)).set_ 1 (.int .i64 m.st)).set_ 2 (.slice A m.rules.length c)).alloc (.cells #[.int .i64 m.sy, .int .i64 m.st, .slice A m.rules.length c] 26)).cell
      simp [results, Tryd.results30, go_sem, d']
    · have := r3.ext (Ext.alloc _ (.cells #[.int .i64 m.sy, .int .i64 m.st, .slice A m.rules.length c] 26))
      exact ownsRow_base this z2
  | false =>
    go_wp2_with fail
    refine (pick_c B b _ 3 w1 hs1 (by omega)).mono ?_
    rintro e w4 ⟨⟨y, rfl, y0, _, y2⟩, hs4, hg4⟩
    have y3 := y2 (by omega)
    have b4 := blk_src hs1 hg4 b1 (by decide)
    have hW4 := grownBy_trans hW1 hg4
    have z4 := hg4.size
    go_wp2_with fail
    refine (l05DrawSize_m B b _ 2 (1 + y) w4 hs4 (by omega) (by omega) (by omega) (by omega) (by omega) (by omega)).mono ?_
    rintro e w5 ⟨⟨m, rv, rfl, ho, hl⟩, hs5, hg5⟩
    have b5 := blk_src hs4 hg5 b4 (by decide)
    have d := b5.cell
    have f := b5.frozen
    obtain ⟨A, c, rfl, _, _, _⟩ := (ownsRow_row ho).form
    go_wp2
    refine bodyPost_ret (v := .agg #[.int .i64 m.sy, .int .i64 m.st, .slice A m.rules.length c]) ?_ rfl (MRes.of hs5 (by omega) (grownBy_trans hW4 hg5) hB hbl HG.out ho (by omega) b5 hl)
    simp [results, Tryd.results30, go_sem, d]
def known27 : List ByteArray := [⟨#[49, 76, 49, 44, 49, 82, 48, 59, 49, 82, 48, 44, 49, 76, 49]⟩, ⟨#[49, 76, 49, 44, 48, 82, 48, 59, 49, 82, 48, 44, 49, 76, 49]⟩, ⟨#[48, 76, 49, 44, 49, 82, 48, 59, 49, 82, 48, 44, 49, 76, 49]⟩, ⟨#[49, 82, 49, 44, 49, 82, 48, 59, 48, 76, 50, 44, 49, 82, 49, 59, 49, 82, 48, 44, 49, 76, 50]⟩, ⟨#[49, 76, 49, 44, 49, 82, 48, 59, 49, 82, 48, 44, 48, 76, 49]⟩, ⟨#[49, 76, 49, 44, 49, 82, 48, 59, 48, 82, 50, 44, 49, 76, 49, 59, 49, 82, 48, 44, 49, 82, 50]⟩, ⟨#[49, 82, 49, 44, 49, 76, 50, 59, 49, 76, 48, 44, 49, 82, 49, 59, 49, 82, 48, 44, 48, 76, 50]⟩]
theorem known27_ok : (known27.all fun x => parseOk x && !(parseM x).rules.isEmpty && decide ((parseM x).rules.length ≤ 600) && machOk (parseM x)) = true := by decide +kernel
set_option maxRecDepth 20000 in
set_option maxHeartbeats 2000000 in
theorem l27DrawMachine_c (B b n : Nat) (w : World) (h : Src B w b n) (hB : B ≤ w.heap.size) (hn : n ≤ 100000000) :
    Calls Tryd.prog 29 #[.pointer (some ⟨b, 0, none⟩)] w (MRes B w b n 600) := by
  have hbl := h.lt
  obtain ⟨W, hW⟩ : ∃ W, W = w.alloc (.cells #[.int .i64 0, .int .i64 0, .slice none 0 0] 26) := ⟨_, rfl⟩
  have hX : Ext w W := by rw [hW]; exact Ext.alloc _ _
  have bR : Blk W w.heap.size 26 #[.int .i64 0, .int .i64 0, .slice none 0 0] := by rw [hW]; exact Blk.new _ _ _ _ rfl
  have hsW := h.ext hX
  have HK := Lib.hid known27_ok
  go_enter Tryd.func29, Tryd.ntmps29
  go_wp2_with fail
  rw [← hW]
  clear hW
  refine (pick_c B b n 3 W hsW (by omega)).mono ?_
  rintro e w1 ⟨⟨q, rfl, q0, _, q2⟩, hs1, hg1⟩
  have hW1 : w.grownBy w1 (some b) := grownBy_trans (ext_grownBy hX _) hg1
  have b1 := blk_src hsW hg1 bR (by decide)
  have z1 := hW1.size
  generalize hg : w.heap.size = g at *
  have HG := Lib.hid hg
  clear hg
  by_cases hq : 0 < q
  · have hqd : decide (0 < q) = true := by simp [hq]
    obtain ⟨V, hV⟩ : ∃ V, V = w1.alloc (.cells (known27.map Value.string).toArray 9) := ⟨_, rfl⟩
    have hXV : Ext w1 V := by rw [hV]; exact Ext.alloc _ _
    have oL : OwnStrs w1.heap.size V (.slice (some ⟨w1.heap.size, 0, none⟩) 7 7) known27 := by
      refine ⟨rfl, .inr ⟨w1.heap.size, 7, (known27.map Value.string).toArray, rfl, Nat.le_refl _, ?_, Nat.le_refl _, by unfold maxLen; omega, rfl, rfl⟩⟩
      rw [hV]
      exact Blk.new _ _ _ _ rfl
    simp only [known27, List.map_cons, List.map_nil] at hV
    go_wp2_with fail
    rw [← hV]
    clear hV
    refine (text_c B w1.heap.size b _ _ known27 V (hs1.ext hXV) oL (by decide) (by omega)).mono ?_
    rintro e w2 ⟨⟨x, rfl, hx⟩, hs2, hg2⟩
    have hk := (List.all_eq_true.1 HK.out) x hx
    simp only [Bool.and_eq_true, Bool.not_eq_true', decide_eq_true_eq] at hk
    obtain ⟨⟨⟨hp, hne⟩, hle⟩, hmo⟩ := hk
    have HMO := Lib.hid hmo
    have HLE := Lib.hid hle
    have b2 := blk_src (hs1.ext hXV) hg2 (b1.ext hXV) (by decide)
    have HP := Lib.hid hp
    have HNE : Hid (0 < (parseM x).rules.length) := by
      unfold Hid
      cases hl : (parseM x).rules with
      | nil => rw [hl] at hne; simp at hne
      | cons _ _ => simp
    have hW2 : w.grownBy w2 (some b) := grownBy_trans (grownBy_trans hW1 (ext_grownBy hXV _)) hg2
    have z2 := hW2.size
    clear hp hne hx hle hmo oL
    go_wp2_with fail
    refine (l05Read_c x w2 HP.out).mono ?_
    rintro e w3 ⟨⟨rv, rfl, ho2⟩, hx3⟩
    generalize parseM x = m at *
    obtain ⟨A, c, rfl, k1, k2, _⟩ := (ownsRow_row ho2).form
    have b3 := b2.ext hx3
    have hlt3 := b3.lt
    have d := b3.cell
    have f := b3.frozen
    have hs3 := hs2.ext hx3
    go_wp2
    obtain ⟨r1, r2, r3⟩ := done3 hs3 (grownBy_trans hW2 (ext_grownBy hx3 _)) hB hbl HG.out ho2 b3 (.int .i64 m.sy) (.int .i64 m.st) (.slice A m.rules.length c)
    refine bodyPost_ret (v := .agg #[.int .i64 m.sy, .int .i64 m.st, .slice A m.rules.length c]) ?_ rfl ⟨⟨m, _, rfl, ?_, HNE.out, HLE.out, HMO.out⟩, (r1.ext (Ext.alloc _ _)).mono (by omega), grownBy_trans r2 (ext_grownBy (Ext.alloc _ _) _)⟩
    · have d' := ((((b3.set_ 0 (.int .i64 m.sy)).set_ 1 (.int .i64 m.st)).set_ 2 (.slice A m.rules.length c)).alloc (.cells #[.int .i64 m.sy, .int .i64 m.st, .slice A m.rules.length c] 26)).cell
      simp [results, Tryd.results29, go_sem, d']
    · have := r3.ext (Ext.alloc _ (.cells #[.int .i64 m.sy, .int .i64 m.st, .slice A m.rules.length c] 26))
      exact ownsRow_base this z2
  · have hqd : decide (0 < q) = false := by simp [hq]
    go_wp2_with fail
    refine (pick_c B b _ 2 w1 hs1 (by omega)).mono ?_
    rintro e w4 ⟨⟨y, rfl, y0, _, y2⟩, hs4, hg4⟩
    have y3 := y2 (by omega)
    have b4 := blk_src hs1 hg4 b1 (by decide)
    have hW4 := grownBy_trans hW1 hg4
    have z4 := hg4.size
    go_wp2_with fail
    refine (l05DrawSize_m B b _ 2 (2 + y) w4 hs4 (by omega) (by omega) (by omega) (by omega) (by omega) (by omega)).mono ?_
    rintro e w5 ⟨⟨m, rv, rfl, ho, hl⟩, hs5, hg5⟩
    have b5 := blk_src hs4 hg5 b4 (by decide)
    have d := b5.cell
    have f := b5.frozen
    obtain ⟨A, c, rfl, _, _, _⟩ := (ownsRow_row ho).form
    go_wp2
    refine bodyPost_ret (v := .agg #[.int .i64 m.sy, .int .i64 m.st, .slice A m.rules.length c]) ?_ rfl (MRes.of hs5 (by omega) (grownBy_trans hW4 hg5) hB hbl HG.out ho (by omega) b5 hl)
    simp [results, Tryd.results29, go_sem, d]
set_option maxRecDepth 20000 in
set_option maxHeartbeats 2000000 in
theorem l31DrawMachine_c (B b n : Nat) (w : World) (h : Src B w b n) (hB : B ≤ w.heap.size) (hn : n ≤ 10000000) :
    Calls Tryd.prog 13 #[.pointer (some ⟨b, 0, none⟩)] w (MRes B w b n 700) := by
  have hbl := h.lt
  obtain ⟨W, hW⟩ : ∃ W, W = w.alloc (.cells #[.int .i64 0, .int .i64 0, .slice none 0 0] 26) := ⟨_, rfl⟩
  have hX : Ext w W := by rw [hW]; exact Ext.alloc _ _
  have bR : Blk W w.heap.size 26 #[.int .i64 0, .int .i64 0, .slice none 0 0] := by rw [hW]; exact Blk.new _ _ _ _ rfl
  have hsW := h.ext hX
  go_enter Tryd.func13, Tryd.ntmps13
  go_wp2_with fail
  rw [← hW]
  clear hW
  refine (pick_c B b n 4 W hsW (by omega)).mono ?_
  rintro e w1 ⟨⟨q, rfl, q0, _, q2⟩, hs1, hg1⟩
  have q3 := q2 (by omega)
  have hW1 : w.grownBy w1 (some b) := grownBy_trans (ext_grownBy hX _) hg1
  have b1 := blk_src hsW hg1 bR (by decide)
  have z1 := hW1.size
  generalize hg : w.heap.size = g at *
  have HG := Lib.hid hg
  clear hg q2
  rcases (show q = 0 ∨ q = 1 ∨ q = 2 ∨ q = 3 by omega) with h0 | h1 | h2 | h3
  · subst h0
    go_wp2_with fail
    refine (l05Known_c B b (n + 2) w1 hs1 (by omega) (by omega)).mono ?_
    rintro e w2 ⟨⟨m, rv, rfl, ho, hl⟩, hs2, hg2⟩
    have b2 := blk_src hs1 hg2 b1 (by decide)
    have d := b2.cell
    have f := b2.frozen
    obtain ⟨A, c, rfl, _, _, _⟩ := (ownsRow_row ho).form
    go_wp2
    refine bodyPost_ret (v := .agg #[.int .i64 m.sy, .int .i64 m.st, .slice A m.rules.length c]) ?_ rfl (MRes.of hs2 (by omega) (grownBy_trans hW1 hg2) hB hbl HG.out ho (by omega) b2 hl)
    simp [results, Tryd.results13, go_sem, d]
  · subst h1
    go_wp2_with fail
    refine (l27DrawMachine_c B b (n + 2) w1 hs1 (by omega) (by omega)).mono ?_
    rintro e w2 ⟨⟨m, rv, rfl, ho, hl⟩, hs2, hg2⟩
    have b2 := blk_src hs1 hg2 b1 (by decide)
    have d := b2.cell
    have f := b2.frozen
    obtain ⟨A, c, rfl, _, _, _⟩ := (ownsRow_row ho).form
    go_wp2
    refine bodyPost_ret (v := .agg #[.int .i64 m.sy, .int .i64 m.st, .slice A m.rules.length c]) ?_ rfl (MRes.of hs2 (by omega) (grownBy_trans hW1 hg2) hB hbl HG.out ho (by omega) b2 hl)
    simp [results, Tryd.results13, go_sem, d]
  · subst h2
    go_wp2_with fail
    refine (l25DrawMachine_c B b (n + 2) w1 hs1 (by omega) (by omega)).mono ?_
    rintro e w2 ⟨⟨m, rv, rfl, ho, hl⟩, hs2, hg2⟩
    have b2 := blk_src hs1 hg2 b1 (by decide)
    have d := b2.cell
    have f := b2.frozen
    obtain ⟨A, c, rfl, _, _, _⟩ := (ownsRow_row ho).form
    go_wp2
    refine bodyPost_ret (v := .agg #[.int .i64 m.sy, .int .i64 m.st, .slice A m.rules.length c]) ?_ rfl (MRes.of hs2 (by omega) (grownBy_trans hW1 hg2) hB hbl HG.out ho (by omega) b2 hl)
    simp [results, Tryd.results13, go_sem, d]
  · subst h3
    go_wp2_with fail
    refine (pick_c B b _ 2 w1 hs1 (by omega)).mono ?_
    rintro e w4 ⟨⟨y, rfl, y0, _, y2⟩, hs4, hg4⟩
    have y3 := y2 (by omega)
    have b4 := blk_src hs1 hg4 b1 (by decide)
    have hW4 := grownBy_trans hW1 hg4
    have z4 := hg4.size
    go_wp2_with fail
    refine (l05DrawSize_m B b _ 2 (1 + y) w4 hs4 (by omega) (by omega) (by omega) (by omega) (by omega) (by omega)).mono ?_
    rintro e w5 ⟨⟨m, rv, rfl, ho, hl⟩, hs5, hg5⟩
    have b5 := blk_src hs4 hg5 b4 (by decide)
    have d := b5.cell
    have f := b5.frozen
    obtain ⟨A, c, rfl, _, _, _⟩ := (ownsRow_row ho).form
    go_wp2
    refine bodyPost_ret (v := .agg #[.int .i64 m.sy, .int .i64 m.st, .slice A m.rules.length c]) ?_ rfl (MRes.of hs5 (by omega) (grownBy_trans hW4 hg5) hB hbl HG.out ho (by omega) b5 hl)
    simp [results, Tryd.results13, go_sem, d]
set_option maxRecDepth 20000 in
theorem R8Runner_c (v : Value) (bs : List Int) (w : World) (h : Bytes w v bs) :
    Calls Tryd.prog 5 #[v] w fun e w' => (∃ (m : MachD) (rv : Value), e = .returned (.agg #[.int .i64 m.sy, .int .i64 m.st, rv]) ∧ machOk m = true ∧ m.rules.length ≤ 600 ∧ OwnRules w.heap.size w' rv m.rules) ∧ Ext w w' := by
  obtain ⟨W, hW⟩ : ∃ W, W = w.alloc (.cells #[.int .i64 0, .int .i64 0, .slice none 0 0] 26) := ⟨_, rfl⟩
  have hX : Ext w W := by rw [hW]; exact Ext.alloc _ _
  have bR : Blk W w.heap.size 26 #[.int .i64 0, .int .i64 0, .slice none 0 0] := by rw [hW]; exact Blk.new _ _ _ _ rfl
  have hWs : W.heap.size = w.heap.size + 1 := by rw [hW]; simp
  have HWS := Lib.hid hWs
  clear hWs
  go_enter Tryd.func5, Tryd.ntmps5
  go_wp2_with fail
  rw [← hW]
  clear hW
  refine (from_c v bs W (h.ext hX)).mono ?_
  rintro e w1 ⟨⟨b, rfl, hb, hs1⟩, hx1⟩
  have b1 := bR.ext hx1
  go_wp2_with fail
  refine (l31DrawMachine_c W.heap.size b 0 w1 hs1 hx1.size (by omega)).mono ?_
  rintro e w2 ⟨⟨m, rv, rfl, ho, hl⟩, hs2, hg2⟩
  have b2 := blk_src hs1 hg2 b1 (by decide)
  have d := b2.cell
  have f := b2.frozen
  obtain ⟨A, c, rfl, _, _, _⟩ := (ownsRow_row ho).form
  have hXX : Ext w w2 := (hX.trans hx1).grown hg2 (fun k hk => by injection hk with hk; have := HWS.out; omega)
  have hfar := own_far_blk ho b2 (by decide)
  have hge : w.heap.size ≤ w1.heap.size := (hX.trans hx1).size
  have HL := Lib.hid hl
  clear hl
  go_wp2
  refine bodyPost_ret (v := .agg #[.int .i64 m.sy, .int .i64 m.st, .slice A m.rules.length c]) ?_ rfl ⟨⟨m, _, rfl, HL.out.2.2, HL.out.2.1, ?_⟩, ?_⟩
  · simp [results, Tryd.results5, go_sem, d]
  · exact ownsRow_base (ownsRow_far (ownsRow_far (ownsRow_far ho hfar _) hfar _) hfar _) hge
  · exact ((hXX.setCell (Nat.le_refl _) _).setCell (Nat.le_refl _) _).setCell (Nat.le_refl _) _
end Go.Proofs.YtnflhpgkffiloaaDoor
end
section
set_option linter.unusedSimpArgs false
set_option linter.unusedVariables false
namespace Go.Proofs.YtnflhpgkffiloaaDoor
open Go Go.RowKit Go.Proofs
set_option maxHeartbeats 400000
theorem shape_of {m : MachD} {f : FoD} {cs : List Int} (h : foOk m f = true) (hc : cs.length = f.rs.length) (hp : ∀ k, k < f.rs.length → 1 ≤ cs.getD k 0 + f.os.getD k 0 ∧ cs.getD k 0 + f.os.getD k 0 ≤ 9) : ShapeF f cs := by
  obtain ⟨a, b, c, _⟩ := foOk_parts h
  have hh : 0 ≤ f.hd ∧ f.hd ≤ f.rs.length := by
    unfold foOk at h
    simp only [Bool.and_eq_true] at h
    exact inB_iff.1 h.1.2
  exact ⟨a.1, b, c, hc, hh.1, hh.2, fun k hk => by have := hp k hk; omega⟩
theorem drawn_ge {f : FoD} {cs : List Int} (hol : ∀ o ∈ f.os, -2 ≤ o ∧ o ≤ 2) (hcs : ∀ z ∈ cs, 4 ≤ z ∧ z < 8) (hl : cs.length = f.rs.length) (ho : f.os.length = f.rs.length) : ∀ k, k < f.rs.length → 1 ≤ cs.getD k 0 + f.os.getD k 0 ∧ cs.getD k 0 + f.os.getD k 0 ≤ 9 := fun k hk => by
  rw [getD_get (show k < cs.length by omega), getD_get (show k < f.os.length by omega)]
  have a := hol _ (List.getElem_mem (show k < f.os.length by omega))
  have b := hcs _ (List.getElem_mem (show k < cs.length by omega))
  omega
/-- A configuration of a formula tape. -/
def AtRes (w : World) (C : ConfD) (e : Ending) (w' : World) : Prop := (∃ lv rv base, e = .returned (.tuple #[.agg #[.int .i64 C.q, lv, rv], .int .i64 0]) ∧ OwnInts base w' lv C.l ∧ OwnInts base w' rv C.r) ∧ Ext w w'
set_option maxRecDepth 20000 in
set_option maxHeartbeats 4000000 in
theorem law7_c (v u : Value) (bs ms : List Int) (w : World) (h : Bytes w v bs) (h' : Bytes w u ms) (hTb : Tab w) :
    Calls Tryd.prog 3 #[v, u] w fun e w' => e = .returned (.bool true) ∧ Ext w w' := by
  obtain ⟨Av, cv, rfl, _, _, _⟩ := h.1.form
  obtain ⟨Au, cu, rfl, _, _, _⟩ := h'.1.form
  go_enter Tryd.func3, Tryd.ntmps3
  go_wp2_with fail
  refine (r8Longs_c w Av Au bs.length cv ms.length cu).mono ?_
  rintro e w1 ⟨rfl, rfl⟩
  cases hbig : (decide (1048576 < bs.length) || decide (1048576 < ms.length)) with
  | true =>
    go_wp2
    go_ret
    exact ⟨rfl, Ext.refl _⟩
  | false =>
    clear hbig
    have RM := R8Runner_c _ bs w h
    clear h
    go_wp2_with fail
    refine RM.mono ?_
    rintro e w2 ⟨⟨m, mv, rfl, hmk, _, oM⟩, hx2⟩
    obtain ⟨Am, cm, rfl, _⟩ := oM.rules.form
    obtain ⟨V2, hV2⟩ : ∃ V, V = w2.alloc (.cells #[.int .i64 m.sy, .int .i64 m.st, .slice Am m.rules.length cm] 26) := ⟨_, rfl⟩
    obtain ⟨bm, hbm⟩ : ∃ b, w2.heap.size = b := ⟨_, rfl⟩
    have hXV : Ext w2 V2 := by rw [hV2]; exact Ext.alloc _ _
    have bM : Blk V2 bm 26 #[.int .i64 m.sy, .int .i64 m.st, .slice Am m.rules.length cm] := by rw [hV2]; exact Blk.new _ _ _ _ hbm
    have hX := hx2.trans hXV
    have RF := R8Formula_c m (.slice Am m.rules.length cm) _ ms V2 (h'.ext hX) hmk
    have HM := Lib.hid (And.intro hmk (oM.rules.ext hXV))
    have HT := Lib.hid (hTb.ext hX)
    have HX2 := Lib.hid hX
    have m0 := bM.cell 0
    have m1 := bM.cell 1
    have m2 := bM.cell 2
    simp only [List.getElem?_toArray, List.getElem?_cons_zero, List.getElem?_cons_succ] at m0 m1 m2
    clear RM oM hmk h' hTb hXV hX hx2
    go_wp2_with fail
    try rw [← hV2]
    try rw [hbm]
    clear hV2 hbm
    refine RF.mono ?_
    rintro e w3 ⟨⟨f, wv, rv, ov, cv', cs, rfl, hF, hok, hwl, hrl, hol, oC, flC, hcl, hcs⟩, hx3⟩
    obtain ⟨A1, c1, rfl, _, _⟩ := hF.ws.form
    obtain ⟨A2, c2, rfl, _, _⟩ := hF.rs.form
    obtain ⟨A3, c3, rfl, _, _⟩ := hF.os.form
    obtain ⟨A4, c4, rfl, _, _⟩ := oC.form
    obtain ⟨V3, hV3⟩ : ∃ V, V = w3.alloc (.cells #[.int .i64 f.q, .int .i64 f.hd, .int .i64 f.at_, .slice A1 f.ws.length c1, .slice A2 f.rs.length c2, .slice A3 f.os.length c3] 31) := ⟨_, rfl⟩
    obtain ⟨bf, hbf⟩ : ∃ b, w3.heap.size = b := ⟨_, rfl⟩
    have e3 : Ext w3 V3 := by rw [hV3]; exact Ext.alloc _ _
    have bF : Blk V3 bf 31 #[.int .i64 f.q, .int .i64 f.hd, .int .i64 f.at_, .slice A1 f.ws.length c1, .slice A2 f.rs.length c2, .slice A3 f.os.length c3] := by rw [hV3]; exact Blk.new _ _ _ _ hbf
    have f0 := bF.cell 0
    have f1 := bF.cell 1
    have f2 := bF.cell 2
    have f3 := bF.cell 3
    have f4 := bF.cell 4
    have f5 := bF.cell 5
    simp only [List.getElem?_toArray, List.getElem?_cons_zero, List.getElem?_cons_succ] at f0 f1 f2 f3 f4 f5
    have X3 := hx3.trans e3
    have y0 := X3.cell m0
    have y1 := X3.cell m1
    have y2 := X3.cell m2
    have hF3 := hF.ext e3
    have NF := NormalFormula_c m (.agg #[.int .i64 m.sy, .int .i64 m.st, .slice Am m.rules.length cm]) _ _ _ _ f V3 ⟨_, rfl, HM.out.2.ext X3⟩ hF3 hok HM.out.1
    have hge := drawn_ge hol hcs hcl (foOk_parts hok).2.2.1
    have hsh := shape_of hok hcl hge
    have HF := Lib.hid (And.intro hF3 (And.intro hok (And.intro hsh (And.intro hge (And.intro hcl hcs)))))
    have HRM := Lib.hid (drawn_room hok hsh hwl hrl hge)
    have HC := Lib.hid (Row.ext oC e3)
    have HX3 := Lib.hid X3
    have HBM := Lib.hid (bM.ext X3)
    have HBF := Lib.hid bF
    rw [hV3] at y0 y1 y2
    clear RF hF hok hwl hrl hol oC hcl hcs hx3 e3 X3 m0 m1 m2 bM hsh hge hF3 f0 f1 f2 f3 f4 f5 bF
    go_wp2_with fail
    try rw [← hV3]
    try rw [hbf]
    clear hV3 hbf
    refine NF.mono ?_
    rintro e w4 ⟨hN, hx4⟩
    rcases hN with ⟨hbad, v0, rfl, rfl⟩ | ⟨hgood, v0, wv', rv', ov', rfl, hG⟩
    · go_wp2
      go_ret
      exact ⟨rfl, ((HX2.out.trans HX3.out).trans hx4).trans (Ext.alloc _ _)⟩
    · obtain ⟨B1, d1, rfl, _, _⟩ := hG.ws.form
      obtain ⟨B2, d2, rfl, _, _⟩ := hG.rs.form
      obtain ⟨B3, d3, rfl, _, _⟩ := hG.os.form
      have NC := norm_cfg HF.out.2.1 hgood HF.out.2.2.1 (fun k hk => (HF.out.2.2.2.1 k hk).1)
      have HGO := Lib.hid hgood
      obtain rfl := hG.e
      generalize normFo f = g at hgood hG NC ⊢
      obtain ⟨V4, hV4⟩ : ∃ V, V = w4.alloc (.cells #[.int .i64 g.q, .int .i64 g.hd, .int .i64 g.at_, .slice B1 g.ws.length d1, .slice B2 g.rs.length d2, .slice B3 g.os.length d3] 31) := ⟨_, rfl⟩
      obtain ⟨bg, hbg⟩ : ∃ b, w4.heap.size = b := ⟨_, rfl⟩
      have e4 : Ext w4 V4 := by rw [hV4]; exact Ext.alloc _ _
      have bG : Blk V4 bg 31 #[.int .i64 g.q, .int .i64 g.hd, .int .i64 g.at_, .slice B1 g.ws.length d1, .slice B2 g.rs.length d2, .slice B3 g.os.length d3] := by rw [hV4]; exact Blk.new _ _ _ _ hbg
      have X4 := hx4.trans e4
      have bM4 := HBM.out.ext X4
      have bF4 := HBF.out.ext X4
      have p0 := bM4.cell 0
      have p1 := bM4.cell 1
      have p2 := bM4.cell 2
      have q0 := bF4.cell 0
      have q1 := bF4.cell 1
      have q2 := bF4.cell 2
      have q3 := bF4.cell 3
      have q4 := bF4.cell 4
      have q5 := bF4.cell 5
      simp only [List.getElem?_toArray, List.getElem?_cons_zero, List.getElem?_cons_succ] at p0 p1 p2 q0 q1 q2 q3 q4 q5
      rw [hV4] at p0 p1 p2 q0 q1 q2 q3 q4 q5
      obtain ⟨C, hC⟩ : ∃ C, foCfg f.q (tapeO f cs) (headO f cs) = C := ⟨_, rfl⟩
      have HR : Hid (roomR C = (C, 0)) := Lib.hid (by rw [← hC]; exact HRM.out)
      have hcb : ∀ z ∈ cs, 0 ≤ z ∧ z ≤ 64 := fun z hz => by have := HF.out.2.2.2.2.2 z hz; omega
      have FA1 : Calls Tryd.prog 8 #[.agg #[.int .i64 m.sy, .int .i64 m.st, (.slice Am m.rules.length cm)], .agg #[.int .i64 f.q, .int .i64 f.hd, .int .i64 f.at_, .slice A1 f.ws.length c1, .slice A2 f.rs.length c2, .slice A3 f.os.length c3], .slice A4 cs.length c4] V4 (AtRes V4 C) := by
        have := FormulaAt_c m _ _ _ _ _ f cs V4 (HF.out.1.ext X4) (Row.ext HC.out X4) HM.out.1 ((HM.out.2.ext HX3.out).ext X4) HF.out.2.1 HF.out.2.2.1 (fun k hk => (HF.out.2.2.2.1 k hk).1) hcb
        rw [hC, HR.out] at this
        exact this
      have HX4 := Lib.hid X4
      have HG := Lib.hid (And.intro (hG.ext e4) (And.intro hgood bG))
      have HNC := Lib.hid NC
      have HCC := Lib.hid hC
      have HCB := Lib.hid hcb
      clear NF hG hgood e4 X4 bM4 bF4 bG NC hx4 hC hcb y0 y1 y2
      go_wp2_with fail
      try rw [← hV4]
      try rw [hbg]
      clear hV4 hbg
      clear p0 p1 p2 q0 q1 q2 q3 q4 q5
      refine FA1.mono ?_
      rintro e w5 ⟨⟨lv, rv, base5, rfl, oL, oR⟩, hx5⟩
      obtain ⟨D1, k1, rfl, _, _⟩ := oL.ints.form
      obtain ⟨D2, k2, rfl, _, _⟩ := oR.ints.form
      obtain ⟨V5, hV5⟩ : ∃ V, V = w5.alloc (.cells #[.int .i64 C.q, .slice D1 C.l.length k1, .slice D2 C.r.length k2] 37) := ⟨_, rfl⟩
      obtain ⟨bx, hbx⟩ : ∃ b, w5.heap.size = b := ⟨_, rfl⟩
      have e5 : Ext w5 V5 := by rw [hV5]; exact Ext.alloc _ _
      have bX : Blk V5 bx 37 #[.int .i64 C.q, .slice D1 C.l.length k1, .slice D2 C.r.length k2] := by rw [hV5]; exact Blk.new _ _ _ _ hbx
      have X5 := hx5.trans e5
      have X45 := HX4.out.trans X5
      have bM5 := HBM.out.ext X45
      have bG5 := HG.out.2.2.ext X5
      have p0 := bM5.cell 0
      have p1 := bM5.cell 1
      have p2 := bM5.cell 2
      have q0 := bG5.cell 0
      have q1 := bG5.cell 1
      have q2 := bG5.cell 2
      have q3 := bG5.cell 3
      have q4 := bG5.cell 4
      have q5 := bG5.cell 5
      simp only [List.getElem?_toArray, List.getElem?_cons_zero, List.getElem?_cons_succ] at p0 p1 p2 q0 q1 q2 q3 q4 q5
      rw [hV5] at p0 p1 p2 q0 q1 q2 q3 q4 q5
      have FA2 : Calls Tryd.prog 8 #[.agg #[.int .i64 m.sy, .int .i64 m.st, (.slice Am m.rules.length cm)], .agg #[.int .i64 g.q, .int .i64 g.hd, .int .i64 g.at_, .slice B1 g.ws.length d1, .slice B2 g.rs.length d2, .slice B3 g.os.length d3], .slice A4 cs.length c4] V5 (AtRes V5 C) := by
        have := FormulaAt_c m _ _ _ _ _ g cs V5 (HG.out.1.ext X5) (Row.ext HC.out X45) HM.out.1 ((HM.out.2.ext HX3.out).ext X45) HG.out.2.1 HNC.out.2.1 HNC.out.2.2 HCB.out
        rw [HNC.out.1, HCC.out, HR.out] at this
        exact this
      have HX5 := Lib.hid X45
      have HXO := Lib.hid (And.intro (oL.ints.ext e5) (And.intro (oR.ints.ext e5) bX))
      clear FA1 oL oR e5 X5 X45 bM5 bG5 bX hx5
      go_wp2_with fail
      try rw [← hV5]
      try rw [hbx]
      clear hV5 hbx
      clear p0 p1 p2 q0 q1 q2 q3 q4 q5
      refine FA2.mono ?_
      rintro e w6 ⟨⟨lv, rv, base6, rfl, oL, oR⟩, hx6⟩
      obtain ⟨D3, k3, rfl, _, _⟩ := oL.ints.form
      obtain ⟨D4, k4, rfl, _, _⟩ := oR.ints.form
      obtain ⟨V6, hV6⟩ : ∃ V, V = w6.alloc (.cells #[.int .i64 C.q, .slice D3 C.l.length k3, .slice D4 C.r.length k4] 37) := ⟨_, rfl⟩
      obtain ⟨by_, hby⟩ : ∃ b, w6.heap.size = b := ⟨_, rfl⟩
      have e6 : Ext w6 V6 := by rw [hV6]; exact Ext.alloc _ _
      have bY : Blk V6 by_ 37 #[.int .i64 C.q, .slice D3 C.l.length k3, .slice D4 C.r.length k4] := by rw [hV6]; exact Blk.new _ _ _ _ hby
      have X6 := hx6.trans e6
      have X56 := HX5.out.trans X6
      have bM6 := HBM.out.ext X56
      have bF6 := HBF.out.ext X56
      have p0 := bM6.cell 0
      have p1 := bM6.cell 1
      have p2 := bM6.cell 2
      have q0 := bF6.cell 0
      have q1 := bF6.cell 1
      have q2 := bF6.cell 2
      have q3 := bF6.cell 3
      have q4 := bF6.cell 4
      have q5 := bF6.cell 5
      simp only [List.getElem?_toArray, List.getElem?_cons_zero, List.getElem?_cons_succ] at p0 p1 p2 q0 q1 q2 q3 q4 q5
      rw [hV6] at p0 p1 p2 q0 q1 q2 q3 q4 q5
      have GR := GrowthOf_c m (.slice Am m.rules.length cm) _ _ _ f V6 (HF.out.1.ext X56) HF.out.2.1 HGO.out HM.out.1 ((HM.out.2.ext HX3.out).ext X56)
      have HX6 := Lib.hid X56
      have HXY := Lib.hid (And.intro (oL.ints.ext e6) (And.intro (oR.ints.ext e6) bY))
      have HX56 := Lib.hid X6
      clear FA2 oL oR e6 X6 X56 bM6 bF6 bY hx6
      go_wp2_with fail
      try rw [← hV6]
      try rw [hby]
      clear hV6 hby
      clear p0 p1 p2 q0 q1 q2 q3 q4 q5
      refine GR.mono ?_
      rintro e w7 ⟨⟨gv, base7, rfl, oZ⟩, hx7⟩
      obtain ⟨N, hN⟩ : ∃ N, f.rs.length = N := ⟨_, rfl⟩
      have hcl : cs.length = N := by rw [← hN]; exact HF.out.2.2.2.2.1
      rw [hN] at oZ
      obtain ⟨zs, hzs⟩ : ∃ zs, List.replicate N (0 : Int) = zs := ⟨_, rfl⟩
      have hzl : zs.length = cs.length := by rw [← hzs, hcl]; simp
      have hzz : ∀ (k : Nat) (h : k < zs.length), zs[k] = 0 := fun k h => by subst hzs; simp
      rw [hzs] at oZ
      obtain ⟨Z1, l1, rfl, _, _⟩ := oZ.ints.form
      have X7 := HX6.out.trans hx7
      have bX7 := HXO.out.2.2.ext (HX56.out.trans hx7)
      have bY7 := HXY.out.2.2.ext hx7
      have p0 := bX7.cell 0
      have p1 := bX7.cell 1
      have p2 := bX7.cell 2
      have q0 := bY7.cell 0
      have q1 := bY7.cell 1
      have q2 := bY7.cell 2
      simp only [List.getElem?_toArray, List.getElem?_cons_zero, List.getElem?_cons_succ] at p0 p1 p2 q0 q1 q2
      have RC := r8Config_c w7 C.q _ _ _ _ C.l C.r (HXO.out.1.ext (HX56.out.trans hx7)) (HXO.out.2.1.ext (HX56.out.trans hx7)) (HXY.out.1.ext hx7) (HXY.out.2.1.ext hx7)
      have HX7 := Lib.hid X7
      have HZ := Lib.hid (And.intro oZ.ints hzz)
      have HZL := Lib.hid hzl
      have hneq : ((zs.length : Int) != (cs.length : Int)) = false := by rw [hzl]; simp
      clear GR X7 bX7 bY7 oZ hzz hcl hzs hN hx7 hzl
      go_wp2_with fail
      refine RC.mono ?_
      rintro e w8 ⟨rfl, hx8⟩
      have X8 := HX7.out.trans hx8
      have hz8 := Row.ext HZ.out.1 hx8
      have bM8 := HBM.out.ext X8
      have bF8 := HBF.out.ext X8
      clear p0 p1 p2 q0 q1 q2
      have p0 := bM8.cell 0
      have p1 := bM8.cell 1
      have p2 := bM8.cell 2
      have q0 := bF8.cell 0
      have q1 := bF8.cell 1
      have q2 := bF8.cell 2
      have q3 := bF8.cell 3
      have q4 := bF8.cell 4
      have q5 := bF8.cell 5
      simp only [List.getElem?_toArray, List.getElem?_cons_zero, List.getElem?_cons_succ] at p0 p1 p2 q0 q1 q2 q3 q4 q5
      have FT := FormulaText_c m (.slice Am m.rules.length cm) _ _ _ f w8 (HF.out.1.ext X8) HF.out.2.1 HM.out.1 ((HM.out.2.ext HX3.out).ext X8) (HT.out.ext (HX3.out.trans X8))
      have HX8 := Lib.hid X8
      have HZ8 := Lib.hid (And.intro hz8 HZ.out.2)
      have hzl := hz8.form
      clear RC X8 bM8 bF8 hx8
      go_wp2_with fail
      clear hneq
      go_loopw [16] (fun a wr => ∃ k : Nat, k ≤ zs.length ∧ a = .int .i64 (k : Int) ∧ w8 = wr) (fun a _ => zs.length - (intOf a).toNat)
      case atStart => exact ⟨0, Nat.zero_le _, rfl, rfl⟩
      case round =>
        obtain ⟨k, hk, rfl, rfl⟩ := hrel
        by_cases hlt : k < zs.length
        · obtain ⟨b', off, rfl, hcc⟩ := Row.at hz8 hlt
          have d0 := hcc k (by omega)
          rw [ivs_get zs k hlt, HZ8.out.2 k hlt] at d0
          have hd1 : decide ((k : Int) < (zs.length : Int)) = true := decide_eq_true (by omega)
          have hd2 : decide (k < zs.length) = true := decide_eq_true hlt
          have hw9 : IntKind.i64.wrap ((k : Int) + 1) = ((k + 1 : Nat) : Int) := by rw [show (k : Int) + 1 = ((k + 1 : Nat) : Int) by omega]; exact IntWalk.i64_in _ (by omega)
          clear FT hcc
          go_wp2
          go_roundw
          case rel => exact ⟨k + 1, by omega, by go_num, by first | rfl | trivial⟩
          case measure => simp [intOf]; omega
        · have hd1 : decide ((k : Int) < (zs.length : Int)) = false := decide_eq_false (by omega)
          have hd2 : decide (k < zs.length) = false := decide_eq_false (by omega)
          go_wp2_with fail
          refine FT.mono ?_
          rintro e w9 ⟨⟨s, rfl, hs⟩, hx9⟩
          have hne : s.toList.isEmpty = false := by
            rw [ByteArray.toList_eq]
            cases e0 : s.data.toList with
            | nil => have := bytes_len s; rw [e0] at this; simp at this; omega
            | cons a l => rfl
          go_wp2
          go_ret
          exact ⟨rfl, ((HX2.out.trans HX3.out).trans HX8.out).trans hx9⟩
end Go.Proofs.YtnflhpgkffiloaaDoor
end
