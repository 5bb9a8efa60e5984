/- The contract of the program's renumbered, at its two uses (an order of the states; an order of the symbols). Written by mkrend.py. -/
import Derived.Test.YtheokhgppmmjlaaRenC
import Derived.Test.YtheokhgppmmjlaaRunq
import Derived.StillTailTactics
import Derived.Deep.RegionLaw
set_option linter.unusedSimpArgs false
set_option linter.unusedVariables false
namespace Go.Proofs.Ytheokhgppmmjlaa
open Go Go.RowKit Go.Proofs
set_option maxHeartbeats 400000
theorem wrap64_small {z : Int} (h0 : 0 ≤ z) (h1 : z ≤ 4611686018427387904) : wrap64 z = z := by
  unfold wrap64; omega
/-- A rule under other numbers. -/
def renR (S Y : Int → Int) (r : RuleD) : RuleD := if isR r then ⟨Y r.w, r.m, S r.n⟩ else r
def renAt (m : MachD) (S Y : Int → Int) (k : Nat) : Nat := (S ((k : Int) / m.sy) * m.sy + Y ((k : Int) % m.sy)).toNat
def renTo (m : MachD) (S Y : Int → Int) : Nat → List RuleD
  | 0 => m.rules
  | k + 1 => (renTo m S Y k).set (renAt m S Y k) (renR S Y (m.rules.getD k noR))
/-- A machine under other numbers. -/
def renM (m : MachD) (S Y : Int → Int) : MachD := ⟨m.sy, m.st, renTo m S Y m.rules.length⟩
theorem renTo_len (m : MachD) (S Y : Int → Int) (k : Nat) : (renTo m S Y k).length = m.rules.length := by
  induction k with
  | zero => rfl
  | succ k ih => simp [renTo, ih]
structure RenSt (w : World) (g go : Nat) (m : MachD) (rv uv : Value) (rs : List RuleD) (W : World) : Prop where
  ext : Ext w W
  mac : Blk W g 26 #[.int .i64 m.sy, .int .i64 m.st, rv]
  res : Blk W (g + 1) 26 #[.int .i64 0, .int .i64 0, .slice none 0 0]
  out : Blk W go 26 #[.int .i64 m.sy, .int .i64 m.st, uv]
  own : OwnRules g W uv rs
theorem RenSt.grow {w : World} {g go : Nat} {m : MachD} {rv uv : Value} {rs : List RuleD} {W W' : World} (h : RenSt w g go m rv uv rs W) (he : Ext W W') : RenSt w g go m rv uv rs W' :=
  ⟨h.ext.trans he, h.mac.ext he, h.res.ext he, h.out.ext he, OwnRules.ext h.own he⟩
theorem RenSt.field {w : World} {g go gr c N : Nat} {m : MachD} {rv : Value} {rs qs : List RuleD} {W : World} (hN : rs.length = N) (h : RenSt w g go m rv (.slice (some ⟨gr, 0, none⟩) N c) rs W) (hg : w.heap.size = g) (j : Nat) (u : Value) (hq : (rvs rs).set j u = rvs qs) (hl : qs.length = N) :
    RenSt w g go m rv (.slice (some ⟨gr, 0, none⟩) N c) qs (W.setCell ⟨gr, j, none⟩ u) := by
  subst hN
  have hlt := h.own.lt gr rfl
  have n1 := own_far_blk h.own h.mac (by decide) gr rfl
  have n2 := own_far_blk h.own h.res (by decide) gr rfl
  have n3 := own_far_blk h.own h.out (by decide) gr rfl
  refine ⟨h.ext.setCell (by simp; omega) _, h.mac.far (by simpa using fun e => n1 e.symm) _, h.res.far (by simpa using fun e => n2 e.symm) _, h.out.far (by simpa using fun e => n3 e.symm) _, ?_⟩
  have := (World.ownsRow.stored h.own j u).1
  rw [hq] at this
  unfold OwnRules
  rw [hl]
  exact this
theorem RenSt.rule {w : World} {g go gr c N : Nat} {m : MachD} {rv : Value} {rs : List RuleD} {W : World} (hN : rs.length = N) (h : RenSt w g go m rv (.slice (some ⟨gr, 0, none⟩) N c) rs W) (hg : w.heap.size = g) (k : Nat) (hk : k < N) (x y z : Int) :
    RenSt w g go m rv (.slice (some ⟨gr, 0, none⟩) N c) (rs.set k ⟨x, y, z⟩) (((W.setCell ⟨gr, k * 3, none⟩ (.int .i64 x)).setCell ⟨gr, k * 3 + 1, none⟩ (.int .i64 y)).setCell ⟨gr, k * 3 + 2, none⟩ (.int .i64 z)) := by
  have s1 := RenSt.field hN h hg (k * 3) (.int .i64 x) (rvs_set0 rs k x (by omega)) (by simpa using hN)
  have l1 : (rs.set k ⟨x, rs[k].m, rs[k].n⟩).length = N := by simpa using hN
  have s2 := RenSt.field l1 s1 hg (k * 3 + 1) (.int .i64 y) (rvs_set1 _ k y (by omega)) (by simpa using hN)
  have l2 : ((rs.set k ⟨x, rs[k].m, rs[k].n⟩).set k ⟨((rs.set k ⟨x, rs[k].m, rs[k].n⟩)[k]'(by omega)).w, y, ((rs.set k ⟨x, rs[k].m, rs[k].n⟩)[k]'(by omega)).n⟩).length = N := by simpa using hN
  have s3 := RenSt.field l2 s2 hg (k * 3 + 2) (.int .i64 z) (rvs_set2 _ k z (by omega)) (by simpa using hN)
  simpa [List.set_set] using s3
theorem RenSt.far {w : World} {g go gr c N b : Nat} {m : MachD} {rv : Value} {rs : List RuleD} {W : World} (h : RenSt w g go m rv (.slice (some ⟨gr, 0, none⟩) N c) rs W) (hg : w.heap.size = g) (h1 : g + 1 < b) (h2 : go ≠ b) (h3 : gr ≠ b) (i : Nat) (u : Value) :
    RenSt w g go m rv (.slice (some ⟨gr, 0, none⟩) N c) rs (W.setCell ⟨b, i, none⟩ u) :=
  ⟨h.ext.setCell (by simp; omega) _, h.mac.far (by simp; omega) _, h.res.far (by simp; omega) _, h.out.far (by simpa using h2) _,
    ownsRow_far h.own (fun k hk => by simp [Value.ownBlock] at hk; subst hk; simpa using h3) _⟩
theorem isR_no {r : RuleD} (h : isR r = true) : ¬ r = noR := by
  intro e
  subst e
  simp [isR, rEq] at h
theorem ruleRange {m : MachD} {x y z : Int} (h : ruleOk m.sy m.st ⟨x, y, z⟩ = true) (hr : isR ⟨x, y, z⟩ = true) : (0 ≤ x ∧ x < m.sy) ∧ (0 ≤ z ∧ z < m.st) := by
  have hn := isR_no hr
  simp only [ruleOk, hn, decide_false, Bool.false_or, Bool.and_eq_true, inB, decide_eq_true_eq] at h
  omega
theorem renAt_lt {m : MachD} {S Y : Int → Int} {k : Nat} (hm : machOk m = true) (hk : k < m.rules.length) (hS : ∀ z, 0 ≤ z → z < m.st → 0 ≤ S z ∧ S z < m.st) (hY : ∀ z, 0 ≤ z → z < m.sy → 0 ≤ Y z ∧ Y z < m.sy) :
    (0 ≤ (k : Int) / m.sy ∧ (k : Int) / m.sy < m.st) ∧ (0 ≤ (k : Int) % m.sy ∧ (k : Int) % m.sy < m.sy) ∧ 0 ≤ S ((k : Int) / m.sy) * m.sy ∧ S ((k : Int) / m.sy) * m.sy + Y ((k : Int) % m.sy) < m.rules.length := by
  obtain ⟨⟨s1, s2, s3, s4⟩, hl, _⟩ := machOk_five hm
  have a1 : (k : Int) / m.sy < m.st := Int.ediv_lt_of_lt_mul (by omega) (by rw [Int.mul_comm]; omega)
  have a0 : 0 ≤ (k : Int) / m.sy := Int.ediv_nonneg (by omega) (by omega)
  have b0 := Int.emod_nonneg (k : Int) (show m.sy ≠ 0 by omega)
  have b1 := Int.emod_lt_of_pos (k : Int) (show 0 < m.sy by omega)
  obtain ⟨c0, c1⟩ := hS _ a0 a1
  obtain ⟨d0, d1⟩ := hY _ b0 b1
  have e1 := Int.mul_nonneg c0 (show 0 ≤ m.sy by omega)
  have e2 : S ((k : Int) / m.sy) * m.sy + m.sy ≤ m.st * m.sy := by
    have := Int.mul_le_mul_of_nonneg_right (show S ((k : Int) / m.sy) + 1 ≤ m.st from c1) (show 0 ≤ m.sy by omega)
    rw [Int.add_mul, Int.one_mul] at this
    exact this
  rw [Int.mul_comm] at hl
  exact ⟨⟨a0, a1⟩, ⟨b0, b1⟩, e1, by omega⟩
set_option maxRecDepth 20000 in
set_option maxHeartbeats 4000000 in
theorem renumS_c (m : MachD) (rv : Value) (bo : Nat) (S Y : Int → Int) (w : World) (hr : Rules w rv m.rules) (hm : machOk m = true)
    (hS : ∀ z, 0 ≤ z → z < m.st → 0 ≤ S z ∧ S z < m.st) (hY : ∀ z, 0 ≤ z → z < m.sy → 0 ≤ Y z ∧ Y z < m.sy)
    (cS : ∀ W z, Ext w W → 0 ≤ z → z < m.st → Calls Try.prog 23 #[.int .i64 z, .pointer (some ⟨bo, 0, none⟩)] W fun e w' => e = .returned (.int .i64 (S z)) ∧ W = w')
    (cY : ∀ W z, Ext w W → 0 ≤ z → z < m.sy → Calls Try.prog 24 #[.int .i64 z] W fun e w' => e = .returned (.int .i64 (Y z)) ∧ W = w') :
    Calls Try.prog 22 #[.agg #[.int .i64 m.sy, .int .i64 m.st, rv], .func (.func 23) #[] #[.pointer (some ⟨bo, 0, none⟩)], .func (.func 24) #[] #[]] w fun e w' => ∃ u, e = .returned (.agg #[.int .i64 m.sy, .int .i64 m.st, u]) ∧ OwnRules w.heap.size w' u (renM m S Y).rules ∧ Ext w w' := by
  obtain ⟨⟨s1, s2, s3, s4⟩, hl, hall⟩ := machOk_five hm
  have h6 := (mul_bounds s1 s2 s3 s4).2
  have h0 : 0 < m.rules.length := by have := Int.mul_pos (show 0 < m.sy by omega) (show 0 < m.st by omega); omega
  have h1 : m.rules.length ≤ 6000 := by omega
  obtain ⟨A, c, rfl, hc1, hc2⟩ := id hr.form
  obtain ⟨W, hW⟩ : ∃ W, W = (w.alloc (.cells #[.int .i64 m.sy, .int .i64 m.st, .slice A m.rules.length c] 26)).alloc (.cells #[.int .i64 0, .int .i64 0, .slice none 0 0] 26) := ⟨_, rfl⟩
  have hX : Ext w W := by rw [hW]; exact (Ext.alloc _ _).trans (Ext.alloc _ _)
  have bM : Blk W w.heap.size 26 #[.int .i64 m.sy, .int .i64 m.st, .slice A m.rules.length c] := by rw [hW]; exact (Blk.new _ _ _ _ rfl).alloc _
  have bR : Blk W (w.heap.size + 1) 26 #[.int .i64 0, .int .i64 0, .slice none 0 0] := by rw [hW]; exact Blk.new _ _ _ _ (by simp)
  have hsz : W.heap.size = w.heap.size + 2 := by rw [hW]; simp
  have m0 := bM.cell 0
  have m1 := bM.cell 1
  have m2 := bM.cell 2
  simp only [List.getElem?_toArray, List.getElem?_cons_zero, List.getElem?_cons_succ] at m0 m1 m2
  have HL := Lib.hid hl
  have HALL := Lib.hid hall
  have HS := Lib.hid hS
  have HY := Lib.hid hY
  have CS := Lib.hid cS
  have CY := Lib.hid cY
  have H6 := Lib.hid h6
  clear hl hall hS hY cS cY h6
  generalize hg : w.heap.size = g at *
  have HG := Lib.hid hg
  go_enter Try.func22, Try.ntmps22
  go_wp2_with fail
  rw [← hW]
  clear hW hg
  refine (copyMachine_c m _ W (hr.ext hX) h0 (by omega)).mono ?_
  rintro e w1 ⟨u, rfl, ho, hx⟩
  obtain ⟨Au, cu, rfl, _, _, _⟩ := (ownsRow_row ho).form
  obtain ⟨gr, hgr⟩ : ∃ gr, Au = some ⟨gr, 0, none⟩ := by
    rcases ho.2 with ⟨e, _⟩ | ⟨gr, _, _, e, _⟩
    · injection e with e1 e2; omega
    · injection e with e1; exact ⟨gr, e1⟩
  subst hgr
  have z1 := hx.size
  obtain ⟨go, hgo⟩ : ∃ go, go = w1.heap.size := ⟨_, rfl⟩
  obtain ⟨w2, hw2⟩ : ∃ w2, w2 = w1.alloc (.cells #[.int .i64 m.sy, .int .i64 m.st, .slice (some ⟨gr, 0, none⟩) m.rules.length cu] 26) := ⟨_, rfl⟩
  have hx2 : Ext w1 w2 := by rw [hw2]; exact Ext.alloc _ _
  have st0 : RenSt w g go m (.slice A m.rules.length c) (.slice (some ⟨gr, 0, none⟩) m.rules.length cu) m.rules w2 :=
    ⟨(hX.trans hx).trans hx2, (bM.ext hx).ext hx2, (bR.ext hx).ext hx2, by rw [hw2, hgo]; exact Blk.new _ _ _ _ rfl, OwnRules.ext (ownsRow_base ho (by omega)) hx2⟩
  have p2 := st0.mac.cell 2
  simp only [List.getElem?_toArray, List.getElem?_cons_zero, List.getElem?_cons_succ] at p2
  rw [hw2] at p2
  clear ho bM bR m0 m1 m2
  go_wp2
  rw [← hw2, ← hgo]
  clear hw2 hgo hx2 p2
  go_loopw [16] (fun i wr => ∃ k : Nat, k ≤ m.rules.length ∧ i = .int .i64 k ∧ RenSt w g go m (.slice A m.rules.length c) (.slice (some ⟨gr, 0, none⟩) m.rules.length cu) (renTo m S Y k) wr) (fun i _ => m.rules.length - (intOf i).toNat)
  case atStart => exact ⟨0, Nat.zero_le _, rfl, st0⟩
  case round =>
    obtain ⟨k, hk, rfl, st⟩ := hrel
    clear st0
    by_cases hlt : k < m.rules.length
    · obtain ⟨⟨a0, a1⟩, ⟨b0, b1⟩, e0, e1⟩ := renAt_lt (k := k) hm hlt HS.out HY.out
      obtain ⟨b', off, rfl, hcr⟩ := (hr.ext st.ext).at hlt
      obtain ⟨c0, c1, c2⟩ := hcr k hlt
      obtain ⟨n0, n1⟩ := HS.out _ a0 a1
      obtain ⟨o0, o1⟩ := HY.out _ b0 b1
      have HAT : Hid (renAt m S Y k = (S ((k : Int) / m.sy) * m.sy + Y ((k : Int) % m.sy)).toNat) := rfl
      have wq : wrap64 ((k : Int) / m.sy) = (k : Int) / m.sy := wrap64_small (by omega) (by omega)
      have wr' : wrap64 ((k : Int) % m.sy) = (k : Int) % m.sy := wrap64_small (by omega) (by omega)
      have CS1 : Hid (∀ W, Ext w W → Calls Try.prog 23 #[.int .i64 (wrap64 ((k : Int) / m.sy)), .pointer (some ⟨bo, 0, none⟩)] W fun e w' => e = .returned (.int .i64 (S ((k : Int) / m.sy))) ∧ W = w') := fun W hW => by rw [wq]; exact CS.out W _ hW a0 a1
      have CY1 : Hid (∀ W, Ext w W → Calls Try.prog 24 #[.int .i64 (wrap64 ((k : Int) % m.sy))] W fun e w' => e = .returned (.int .i64 (Y ((k : Int) % m.sy))) ∧ W = w') := fun W hW => by rw [wr']; exact CY.out W _ hW b0 b1
      have CS2 : Hid (∀ W, Ext w W → Calls Try.prog 23 #[.int .i64 ((k : Int) / m.sy), .pointer (some ⟨bo, 0, none⟩)] W fun e w' => e = .returned (.int .i64 (S ((k : Int) / m.sy))) ∧ W = w') := fun W hW => CS.out W _ hW a0 a1
      have CY2 : Hid (∀ W, Ext w W → Calls Try.prog 24 #[.int .i64 ((k : Int) % m.sy)] W fun e w' => e = .returned (.int .i64 (Y ((k : Int) % m.sy))) ∧ W = w') := fun W hW => CY.out W _ hW b0 b1
      have CYR : Hid (isR m.rules[k] = true → ∀ W, Ext w W → Calls Try.prog 24 #[.int .i64 m.rules[k].w] W fun e w' => e = .returned (.int .i64 (Y m.rules[k].w)) ∧ W = w') := fun hr W hW => by
        obtain ⟨⟨r0, r1⟩, r2, r3⟩ := ruleRange (HALL.out _ (List.getElem_mem hlt)) hr
        exact CY.out W _ hW r0 r1
      have CSR : Hid (isR m.rules[k] = true → ∀ W, Ext w W → Calls Try.prog 23 #[.int .i64 m.rules[k].n, .pointer (some ⟨bo, 0, none⟩)] W fun e w' => e = .returned (.int .i64 (S m.rules[k].n)) ∧ W = w') := fun hr W hW => by
        obtain ⟨⟨r0, r1⟩, r2, r3⟩ := ruleRange (HALL.out _ (List.getElem_mem hlt)) hr
        exact CS.out W _ hW r2 r3
      have HRU : Hid (renTo m S Y (k + 1) = (renTo m S Y k).set (renAt m S Y k) (renR S Y m.rules[k])) := by
        unfold Hid; rw [renTo, List.getD_eq_getElem?_getD, List.getElem?_eq_getElem hlt]; rfl
      have HOK := Lib.hid (HALL.out _ (List.getElem_mem hlt))
      generalize S ((k : Int) / m.sy) = sq at *
      generalize Y ((k : Int) % m.sy) = yr at *
      generalize m.rules[k] = ru at *
      obtain ⟨rx, ry, rz⟩ := ru
      simp only at c0 c1 c2
      have hle6 : sq * m.sy ≤ 6000 := by omega
      obtain ⟨j, hj⟩ := Int.eq_ofNat_of_zero_le (show 0 ≤ sq * m.sy + yr by omega)
      have HJ : Hid (renAt m S Y k = j) := by unfold Hid; rw [HAT.out, hj, Int.toNat_natCast]
      have hjl : j < m.rules.length := by omega
      have hrl := renTo_len m S Y k
      generalize renTo m S Y k = rs at *
      obtain ⟨v1, hv1⟩ : ∃ v1, v1 = wr.alloc (.cells #[.int .i64 rx, .int .i64 ry, .int .i64 rz] 55) := ⟨_, rfl⟩
      obtain ⟨b9, hb9⟩ : ∃ b9, b9 = wr.heap.size := ⟨_, rfl⟩
      have st1 := st.grow (Ext.alloc wr (.cells #[.int .i64 rx, .int .i64 ry, .int .i64 rz] 55))
      have bx := Blk.new wr b9 55 #[.int .i64 rx, .int .i64 ry, .int .i64 rz] hb9.symm
      rw [← hv1] at st1 bx
      have p0 := st1.mac.cell 0
      simp only [List.getElem?_toArray, List.getElem?_cons_zero, List.getElem?_cons_succ] at p0
      have d0 := cellR p0
      have hEv := Lib.hid st1.ext
      have HB1 : Hid (g + 1 < b9) := by have := st.res.lt; unfold Hid; omega
      have HB2 : Hid (go ≠ b9) := by have := st.out.lt; unfold Hid; omega
      have HB3 : Hid (gr ≠ b9) := by have := (st.own.lt gr rfl).2; unfold Hid; omega
      clear wq wr' hcr st HS HY CS CY HALL HAT
      go_wp2_with fail
      rw [← hv1, ← hb9]
      clear hv1 hb9 c0 c1 c2
      refine wp_region_ext (by kernel_rfl) (by kernel_rfl) ?_
      repeat (go_big_quiet_step (first | (go_at_call 23; exact Calls.sameR (CS2.out _ (hEv.out.trans (below_regrown _ _ _)))) | (go_at_call 23; exact Calls.sameR (CS1.out _ (hEv.out.trans (below_regrown _ _ _)))) | (go_at_call 24; exact Calls.sameR (CY1.out _ (hEv.out.trans (below_regrown _ _ _)))) | (go_at_call 24; exact Calls.sameR (CY2.out _ (hEv.out.trans (below_regrown _ _ _))))))
      refine wpQuiet_nil ?_
      intro w5 hx5
      clear d0 a0 a1 b0 b1
      have st5 := st1.grow hx5
      have bx5 := bx.ext hx5
      have b0' := bx5.cell 0
      have b1' := bx5.cell 1
      have b2' := bx5.cell 2
      simp only [List.getElem?_toArray, List.getElem?_cons_zero, List.getElem?_cons_succ] at b0' b1' b2'
      go_wp2_with fail
      refine (isRule_c rx ry rz w5).mono ?_
      rintro e w6 ⟨rfl, hx6⟩
      have st6 := st5.grow hx6
      have bx6 := bx5.ext hx6
      clear b0' b1' b2' st1 bx st5 bx5 p0 hEv
      cases hru : isR ⟨rx, ry, rz⟩
      · have HR : Hid (renR S Y ⟨rx, ry, rz⟩ = ⟨rx, ry, rz⟩) := by unfold Hid renR; rw [hru]; rfl
        have st8 := st6
        have bx8 := bx6
        clear st6 bx6 hru
        have y2 := st8.out.cell 2
        have ow := st8.own
        unfold OwnRules at ow
        rw [hrl] at ow
        have q0 := ow.cellAt (j * 3) (by omega)
        have q1 := ow.cellAt (j * 3 + 1) (by omega)
        have q2 := ow.cellAt (j * 3 + 2) (by omega)
        have qf0 := ow.frozenAt (j * 3)
        have qf1 := ow.frozenAt (j * 3 + 1)
        have qf2 := ow.frozenAt (j * 3 + 2)
        rw [List.getElem?_eq_getElem (by rw [rvs_length]; omega)] at q0 q1 q2
        have x0 := bx8.cell 0
        have x1 := bx8.cell 1
        have x2 := bx8.cell 2
        simp only [List.getElem?_toArray, List.getElem?_cons_zero, List.getElem?_cons_succ, Array.setIfInBounds, List.setIfInBounds_toArray, List.set_cons_succ, List.set_cons_zero] at y2 x0 x1 x2
        have ST := Lib.hid (RenSt.rule hrl st8 HG.out j hjl rx ry rz)
        clear ow st8 bx8
        go_wp2
        go_roundw
        case rel =>
          refine ⟨k + 1, by omega, by go_num, ?_⟩
          rw [HRU.out, HJ.out, HR.out]
          exact ST.out
        case measure => simp [intOf]; omega
      · have HR : Hid (renR S Y ⟨rx, ry, rz⟩ = ⟨Y rx, ry, S rz⟩) := by unfold Hid renR; rw [hru]; rfl
        have CY3 := CYR.out hru
        have CS3 := CSR.out hru
        have st6d := st6.grow (Ext.drew w6)
        have bx6d := bx6.ext (Ext.drew w6)
        have t0 := bx6d.cell 0
        have t1 := bx6d.cell 1
        have t2 := bx6d.cell 2
        have tf0 := bx6d.frozen 0
        have tf1 := bx6d.frozen 1
        have tf2 := bx6d.frozen 2
        have hE6 := st6d.ext
        have s0 := bx6.cell 0
        have s1' := bx6.cell 1
        have s2' := bx6.cell 2
        have sf0 := bx6.frozen 0
        have sf1 := bx6.frozen 1
        have sf2 := bx6.frozen 2
        simp only [List.getElem?_toArray, List.getElem?_cons_zero, List.getElem?_cons_succ] at t0 t1 t2 s0 s1' s2'
        clear hru CYR CSR
        go_wp2_with fail
        refine wp_region_still_tail 11 (by kernel_rfl) (by kernel_rfl) ?_
        simp only [List.take_succ_cons, List.take_zero, List.drop_succ_cons, List.drop_zero]
        still_step
        still_step
        still_step
        still_call ((CY3 _ hE6).mono fun _ _ h => ⟨h.1, h.2.symm⟩)
        still_step
        still_step
        still_step
        still_step
        still_step
        still_call ((CS3 _ hE6).mono fun _ _ h => ⟨h.1, h.2.symm⟩)
        still_step
        refine wpStill_nil ?_
        change wpList _ _ _ _ _ w6.drew
        generalize w6.drew = w7 at *
        have st8 := ((st6d.far HG.out HB1.out HB2.out HB3.out 0 (.int .i64 (Y rx))).far HG.out HB1.out HB2.out HB3.out 1 (.int .i64 ry)).far HG.out HB1.out HB2.out HB3.out 2 (.int .i64 (S rz))
        have bx8 := ((bx6d.set_ 0 (.int .i64 (Y rx))).set_ 1 (.int .i64 ry)).set_ 2 (.int .i64 (S rz))
        have y2 := st8.out.cell 2
        have ow := st8.own
        unfold OwnRules at ow
        rw [hrl] at ow
        have q0 := ow.cellAt (j * 3) (by omega)
        have q1 := ow.cellAt (j * 3 + 1) (by omega)
        have q2 := ow.cellAt (j * 3 + 2) (by omega)
        have qf0 := ow.frozenAt (j * 3)
        have qf1 := ow.frozenAt (j * 3 + 1)
        have qf2 := ow.frozenAt (j * 3 + 2)
        rw [List.getElem?_eq_getElem (by rw [rvs_length]; omega)] at q0 q1 q2
        have x0 := bx8.cell 0
        have x1 := bx8.cell 1
        have x2 := bx8.cell 2
        simp only [List.getElem?_toArray, List.getElem?_cons_zero, List.getElem?_cons_succ, Array.setIfInBounds, List.setIfInBounds_toArray, List.set_cons_succ, List.set_cons_zero] at y2 x0 x1 x2
        have ST := Lib.hid (RenSt.rule hrl st8 HG.out j hjl (Y rx) ry (S rz))
        clear ow st8 bx8
        go_wp2
        go_roundw
        case rel =>
          refine ⟨k + 1, by omega, by go_num, ?_⟩
          rw [HRU.out, HJ.out, HR.out]
          exact ST.out
        case measure => simp [intOf]; omega
    · obtain rfl : k = m.rules.length := by omega
      clear hlt
      have hsg : w.heap.size = g := HG.out
      have u0 := st.out.cell 0
      have u1 := st.out.cell 1
      have u2 := st.out.cell 2
      have r0 := st.res.cell 0
      have r1 := st.res.cell 1
      have r2 := st.res.cell 2
      have f0 := st.res.frozen 0
      have f1 := st.res.frozen 1
      have f2 := st.res.frozen 2
      simp only [List.getElem?_toArray, List.getElem?_cons_zero, List.getElem?_cons_succ] at u0 u1 u2 r0 r1 r2
      have d := (((st.res.set_ 0 (.int .i64 m.sy)).set_ 1 (.int .i64 m.st)).set_ 2 (.slice (some ⟨gr, 0, none⟩) m.rules.length cu)).cell
      have hf := own_far_blk st.own st.res (by decide)
      have hX9 := st.ext
      have ho9 := st.own
      have HRM : (renM m S Y).rules = renTo m S Y m.rules.length := rfl
      clear st
      go_wp2
      refine bodyPost_ret (v := .agg #[.int .i64 m.sy, .int .i64 m.st, .slice (some ⟨gr, 0, none⟩) m.rules.length cu]) (by simp [results, Try.results22, go_sem, d]) rfl ⟨_, rfl, ?_, ?_⟩
      · rw [HRM]
        exact ownsRow_far (ownsRow_far (ownsRow_far ho9 hf _) hf _) hf _
      · exact ((hX9.setCell (by simp only; omega) _).setCell (by simp only; omega) _).setCell (by simp only; omega) _
set_option maxRecDepth 20000 in
set_option maxHeartbeats 4000000 in
theorem renumY_c (m : MachD) (rv : Value) (bo : Nat) (S Y : Int → Int) (w : World) (hr : Rules w rv m.rules) (hm : machOk m = true)
    (hS : ∀ z, 0 ≤ z → z < m.st → 0 ≤ S z ∧ S z < m.st) (hY : ∀ z, 0 ≤ z → z < m.sy → 0 ≤ Y z ∧ Y z < m.sy)
    (cS : ∀ W z, Ext w W → 0 ≤ z → z < m.st → Calls Try.prog 24 #[.int .i64 z] W fun e w' => e = .returned (.int .i64 (S z)) ∧ W = w')
    (cY : ∀ W z, Ext w W → 0 ≤ z → z < m.sy → Calls Try.prog 25 #[.int .i64 z, .pointer (some ⟨bo, 0, none⟩)] W fun e w' => e = .returned (.int .i64 (Y z)) ∧ W = w') :
    Calls Try.prog 22 #[.agg #[.int .i64 m.sy, .int .i64 m.st, rv], .func (.func 24) #[] #[], .func (.func 25) #[] #[.pointer (some ⟨bo, 0, none⟩)]] w fun e w' => ∃ u, e = .returned (.agg #[.int .i64 m.sy, .int .i64 m.st, u]) ∧ OwnRules w.heap.size w' u (renM m S Y).rules ∧ Ext w w' := by
  obtain ⟨⟨s1, s2, s3, s4⟩, hl, hall⟩ := machOk_five hm
  have h6 := (mul_bounds s1 s2 s3 s4).2
  have h0 : 0 < m.rules.length := by have := Int.mul_pos (show 0 < m.sy by omega) (show 0 < m.st by omega); omega
  have h1 : m.rules.length ≤ 6000 := by omega
  obtain ⟨A, c, rfl, hc1, hc2⟩ := id hr.form
  obtain ⟨W, hW⟩ : ∃ W, W = (w.alloc (.cells #[.int .i64 m.sy, .int .i64 m.st, .slice A m.rules.length c] 26)).alloc (.cells #[.int .i64 0, .int .i64 0, .slice none 0 0] 26) := ⟨_, rfl⟩
  have hX : Ext w W := by rw [hW]; exact (Ext.alloc _ _).trans (Ext.alloc _ _)
  have bM : Blk W w.heap.size 26 #[.int .i64 m.sy, .int .i64 m.st, .slice A m.rules.length c] := by rw [hW]; exact (Blk.new _ _ _ _ rfl).alloc _
  have bR : Blk W (w.heap.size + 1) 26 #[.int .i64 0, .int .i64 0, .slice none 0 0] := by rw [hW]; exact Blk.new _ _ _ _ (by simp)
  have hsz : W.heap.size = w.heap.size + 2 := by rw [hW]; simp
  have m0 := bM.cell 0
  have m1 := bM.cell 1
  have m2 := bM.cell 2
  simp only [List.getElem?_toArray, List.getElem?_cons_zero, List.getElem?_cons_succ] at m0 m1 m2
  have HL := Lib.hid hl
  have HALL := Lib.hid hall
  have HS := Lib.hid hS
  have HY := Lib.hid hY
  have CS := Lib.hid cS
  have CY := Lib.hid cY
  have H6 := Lib.hid h6
  clear hl hall hS hY cS cY h6
  generalize hg : w.heap.size = g at *
  have HG := Lib.hid hg
  go_enter Try.func22, Try.ntmps22
  go_wp2_with fail
  rw [← hW]
  clear hW hg
  refine (copyMachine_c m _ W (hr.ext hX) h0 (by omega)).mono ?_
  rintro e w1 ⟨u, rfl, ho, hx⟩
  obtain ⟨Au, cu, rfl, _, _, _⟩ := (ownsRow_row ho).form
  obtain ⟨gr, hgr⟩ : ∃ gr, Au = some ⟨gr, 0, none⟩ := by
    rcases ho.2 with ⟨e, _⟩ | ⟨gr, _, _, e, _⟩
    · injection e with e1 e2; omega
    · injection e with e1; exact ⟨gr, e1⟩
  subst hgr
  have z1 := hx.size
  obtain ⟨go, hgo⟩ : ∃ go, go = w1.heap.size := ⟨_, rfl⟩
  obtain ⟨w2, hw2⟩ : ∃ w2, w2 = w1.alloc (.cells #[.int .i64 m.sy, .int .i64 m.st, .slice (some ⟨gr, 0, none⟩) m.rules.length cu] 26) := ⟨_, rfl⟩
  have hx2 : Ext w1 w2 := by rw [hw2]; exact Ext.alloc _ _
  have st0 : RenSt w g go m (.slice A m.rules.length c) (.slice (some ⟨gr, 0, none⟩) m.rules.length cu) m.rules w2 :=
    ⟨(hX.trans hx).trans hx2, (bM.ext hx).ext hx2, (bR.ext hx).ext hx2, by rw [hw2, hgo]; exact Blk.new _ _ _ _ rfl, OwnRules.ext (ownsRow_base ho (by omega)) hx2⟩
  have p2 := st0.mac.cell 2
  simp only [List.getElem?_toArray, List.getElem?_cons_zero, List.getElem?_cons_succ] at p2
  rw [hw2] at p2
  clear ho bM bR m0 m1 m2
  go_wp2
  rw [← hw2, ← hgo]
  clear hw2 hgo hx2 p2
  go_loopw [16] (fun i wr => ∃ k : Nat, k ≤ m.rules.length ∧ i = .int .i64 k ∧ RenSt w g go m (.slice A m.rules.length c) (.slice (some ⟨gr, 0, none⟩) m.rules.length cu) (renTo m S Y k) wr) (fun i _ => m.rules.length - (intOf i).toNat)
  case atStart => exact ⟨0, Nat.zero_le _, rfl, st0⟩
  case round =>
    obtain ⟨k, hk, rfl, st⟩ := hrel
    clear st0
    by_cases hlt : k < m.rules.length
    · obtain ⟨⟨a0, a1⟩, ⟨b0, b1⟩, e0, e1⟩ := renAt_lt (k := k) hm hlt HS.out HY.out
      obtain ⟨b', off, rfl, hcr⟩ := (hr.ext st.ext).at hlt
      obtain ⟨c0, c1, c2⟩ := hcr k hlt
      obtain ⟨n0, n1⟩ := HS.out _ a0 a1
      obtain ⟨o0, o1⟩ := HY.out _ b0 b1
      have HAT : Hid (renAt m S Y k = (S ((k : Int) / m.sy) * m.sy + Y ((k : Int) % m.sy)).toNat) := rfl
      have wq : wrap64 ((k : Int) / m.sy) = (k : Int) / m.sy := wrap64_small (by omega) (by omega)
      have wr' : wrap64 ((k : Int) % m.sy) = (k : Int) % m.sy := wrap64_small (by omega) (by omega)
      have CS1 : Hid (∀ W, Ext w W → Calls Try.prog 24 #[.int .i64 (wrap64 ((k : Int) / m.sy))] W fun e w' => e = .returned (.int .i64 (S ((k : Int) / m.sy))) ∧ W = w') := fun W hW => by rw [wq]; exact CS.out W _ hW a0 a1
      have CY1 : Hid (∀ W, Ext w W → Calls Try.prog 25 #[.int .i64 (wrap64 ((k : Int) % m.sy)), .pointer (some ⟨bo, 0, none⟩)] W fun e w' => e = .returned (.int .i64 (Y ((k : Int) % m.sy))) ∧ W = w') := fun W hW => by rw [wr']; exact CY.out W _ hW b0 b1
      have CS2 : Hid (∀ W, Ext w W → Calls Try.prog 24 #[.int .i64 ((k : Int) / m.sy)] W fun e w' => e = .returned (.int .i64 (S ((k : Int) / m.sy))) ∧ W = w') := fun W hW => CS.out W _ hW a0 a1
      have CY2 : Hid (∀ W, Ext w W → Calls Try.prog 25 #[.int .i64 ((k : Int) % m.sy), .pointer (some ⟨bo, 0, none⟩)] W fun e w' => e = .returned (.int .i64 (Y ((k : Int) % m.sy))) ∧ W = w') := fun W hW => CY.out W _ hW b0 b1
      have CYR : Hid (isR m.rules[k] = true → ∀ W, Ext w W → Calls Try.prog 25 #[.int .i64 m.rules[k].w, .pointer (some ⟨bo, 0, none⟩)] W fun e w' => e = .returned (.int .i64 (Y m.rules[k].w)) ∧ W = w') := fun hr W hW => by
        obtain ⟨⟨r0, r1⟩, r2, r3⟩ := ruleRange (HALL.out _ (List.getElem_mem hlt)) hr
        exact CY.out W _ hW r0 r1
      have CSR : Hid (isR m.rules[k] = true → ∀ W, Ext w W → Calls Try.prog 24 #[.int .i64 m.rules[k].n] W fun e w' => e = .returned (.int .i64 (S m.rules[k].n)) ∧ W = w') := fun hr W hW => by
        obtain ⟨⟨r0, r1⟩, r2, r3⟩ := ruleRange (HALL.out _ (List.getElem_mem hlt)) hr
        exact CS.out W _ hW r2 r3
      have HRU : Hid (renTo m S Y (k + 1) = (renTo m S Y k).set (renAt m S Y k) (renR S Y m.rules[k])) := by
        unfold Hid; rw [renTo, List.getD_eq_getElem?_getD, List.getElem?_eq_getElem hlt]; rfl
      have HOK := Lib.hid (HALL.out _ (List.getElem_mem hlt))
      generalize S ((k : Int) / m.sy) = sq at *
      generalize Y ((k : Int) % m.sy) = yr at *
      generalize m.rules[k] = ru at *
      obtain ⟨rx, ry, rz⟩ := ru
      simp only at c0 c1 c2
      have hle6 : sq * m.sy ≤ 6000 := by omega
      obtain ⟨j, hj⟩ := Int.eq_ofNat_of_zero_le (show 0 ≤ sq * m.sy + yr by omega)
      have HJ : Hid (renAt m S Y k = j) := by unfold Hid; rw [HAT.out, hj, Int.toNat_natCast]
      have hjl : j < m.rules.length := by omega
      have hrl := renTo_len m S Y k
      generalize renTo m S Y k = rs at *
      obtain ⟨v1, hv1⟩ : ∃ v1, v1 = wr.alloc (.cells #[.int .i64 rx, .int .i64 ry, .int .i64 rz] 55) := ⟨_, rfl⟩
      obtain ⟨b9, hb9⟩ : ∃ b9, b9 = wr.heap.size := ⟨_, rfl⟩
      have st1 := st.grow (Ext.alloc wr (.cells #[.int .i64 rx, .int .i64 ry, .int .i64 rz] 55))
      have bx := Blk.new wr b9 55 #[.int .i64 rx, .int .i64 ry, .int .i64 rz] hb9.symm
      rw [← hv1] at st1 bx
      have p0 := st1.mac.cell 0
      simp only [List.getElem?_toArray, List.getElem?_cons_zero, List.getElem?_cons_succ] at p0
      have d0 := cellR p0
      have hEv := Lib.hid st1.ext
      have HB1 : Hid (g + 1 < b9) := by have := st.res.lt; unfold Hid; omega
      have HB2 : Hid (go ≠ b9) := by have := st.out.lt; unfold Hid; omega
      have HB3 : Hid (gr ≠ b9) := by have := (st.own.lt gr rfl).2; unfold Hid; omega
      clear wq wr' hcr st HS HY CS CY HALL HAT
      go_wp2_with fail
      rw [← hv1, ← hb9]
      clear hv1 hb9 c0 c1 c2
      refine wp_region_ext (by kernel_rfl) (by kernel_rfl) ?_
      repeat (go_big_quiet_step (first | (go_at_call 24; exact Calls.sameR (CS2.out _ (hEv.out.trans (below_regrown _ _ _)))) | (go_at_call 24; exact Calls.sameR (CS1.out _ (hEv.out.trans (below_regrown _ _ _)))) | (go_at_call 25; exact Calls.sameR (CY1.out _ (hEv.out.trans (below_regrown _ _ _)))) | (go_at_call 25; exact Calls.sameR (CY2.out _ (hEv.out.trans (below_regrown _ _ _))))))
      refine wpQuiet_nil ?_
      intro w5 hx5
      clear d0 a0 a1 b0 b1
      have st5 := st1.grow hx5
      have bx5 := bx.ext hx5
      have b0' := bx5.cell 0
      have b1' := bx5.cell 1
      have b2' := bx5.cell 2
      simp only [List.getElem?_toArray, List.getElem?_cons_zero, List.getElem?_cons_succ] at b0' b1' b2'
      go_wp2_with fail
      refine (isRule_c rx ry rz w5).mono ?_
      rintro e w6 ⟨rfl, hx6⟩
      have st6 := st5.grow hx6
      have bx6 := bx5.ext hx6
      clear b0' b1' b2' st1 bx st5 bx5 p0 hEv
      cases hru : isR ⟨rx, ry, rz⟩
      · have HR : Hid (renR S Y ⟨rx, ry, rz⟩ = ⟨rx, ry, rz⟩) := by unfold Hid renR; rw [hru]; rfl
        have st8 := st6
        have bx8 := bx6
        clear st6 bx6 hru
        have y2 := st8.out.cell 2
        have ow := st8.own
        unfold OwnRules at ow
        rw [hrl] at ow
        have q0 := ow.cellAt (j * 3) (by omega)
        have q1 := ow.cellAt (j * 3 + 1) (by omega)
        have q2 := ow.cellAt (j * 3 + 2) (by omega)
        have qf0 := ow.frozenAt (j * 3)
        have qf1 := ow.frozenAt (j * 3 + 1)
        have qf2 := ow.frozenAt (j * 3 + 2)
        rw [List.getElem?_eq_getElem (by rw [rvs_length]; omega)] at q0 q1 q2
        have x0 := bx8.cell 0
        have x1 := bx8.cell 1
        have x2 := bx8.cell 2
        simp only [List.getElem?_toArray, List.getElem?_cons_zero, List.getElem?_cons_succ, Array.setIfInBounds, List.setIfInBounds_toArray, List.set_cons_succ, List.set_cons_zero] at y2 x0 x1 x2
        have ST := Lib.hid (RenSt.rule hrl st8 HG.out j hjl rx ry rz)
        clear ow st8 bx8
        go_wp2
        go_roundw
        case rel =>
          refine ⟨k + 1, by omega, by go_num, ?_⟩
          rw [HRU.out, HJ.out, HR.out]
          exact ST.out
        case measure => simp [intOf]; omega
      · have HR : Hid (renR S Y ⟨rx, ry, rz⟩ = ⟨Y rx, ry, S rz⟩) := by unfold Hid renR; rw [hru]; rfl
        have CY3 := CYR.out hru
        have CS3 := CSR.out hru
        have st6d := st6.grow (Ext.drew w6)
        have bx6d := bx6.ext (Ext.drew w6)
        have t0 := bx6d.cell 0
        have t1 := bx6d.cell 1
        have t2 := bx6d.cell 2
        have tf0 := bx6d.frozen 0
        have tf1 := bx6d.frozen 1
        have tf2 := bx6d.frozen 2
        have hE6 := st6d.ext
        have s0 := bx6.cell 0
        have s1' := bx6.cell 1
        have s2' := bx6.cell 2
        have sf0 := bx6.frozen 0
        have sf1 := bx6.frozen 1
        have sf2 := bx6.frozen 2
        simp only [List.getElem?_toArray, List.getElem?_cons_zero, List.getElem?_cons_succ] at t0 t1 t2 s0 s1' s2'
        clear hru CYR CSR
        go_wp2_with fail
        refine wp_region_still_tail 11 (by kernel_rfl) (by kernel_rfl) ?_
        simp only [List.take_succ_cons, List.take_zero, List.drop_succ_cons, List.drop_zero]
        still_step
        still_step
        still_step
        still_call ((CY3 _ hE6).mono fun _ _ h => ⟨h.1, h.2.symm⟩)
        still_step
        still_step
        still_step
        still_step
        still_step
        still_call ((CS3 _ hE6).mono fun _ _ h => ⟨h.1, h.2.symm⟩)
        still_step
        refine wpStill_nil ?_
        change wpList _ _ _ _ _ w6.drew
        generalize w6.drew = w7 at *
        have st8 := ((st6d.far HG.out HB1.out HB2.out HB3.out 0 (.int .i64 (Y rx))).far HG.out HB1.out HB2.out HB3.out 1 (.int .i64 ry)).far HG.out HB1.out HB2.out HB3.out 2 (.int .i64 (S rz))
        have bx8 := ((bx6d.set_ 0 (.int .i64 (Y rx))).set_ 1 (.int .i64 ry)).set_ 2 (.int .i64 (S rz))
        have y2 := st8.out.cell 2
        have ow := st8.own
        unfold OwnRules at ow
        rw [hrl] at ow
        have q0 := ow.cellAt (j * 3) (by omega)
        have q1 := ow.cellAt (j * 3 + 1) (by omega)
        have q2 := ow.cellAt (j * 3 + 2) (by omega)
        have qf0 := ow.frozenAt (j * 3)
        have qf1 := ow.frozenAt (j * 3 + 1)
        have qf2 := ow.frozenAt (j * 3 + 2)
        rw [List.getElem?_eq_getElem (by rw [rvs_length]; omega)] at q0 q1 q2
        have x0 := bx8.cell 0
        have x1 := bx8.cell 1
        have x2 := bx8.cell 2
        simp only [List.getElem?_toArray, List.getElem?_cons_zero, List.getElem?_cons_succ, Array.setIfInBounds, List.setIfInBounds_toArray, List.set_cons_succ, List.set_cons_zero] at y2 x0 x1 x2
        have ST := Lib.hid (RenSt.rule hrl st8 HG.out j hjl (Y rx) ry (S rz))
        clear ow st8 bx8
        go_wp2
        go_roundw
        case rel =>
          refine ⟨k + 1, by omega, by go_num, ?_⟩
          rw [HRU.out, HJ.out, HR.out]
          exact ST.out
        case measure => simp [intOf]; omega
    · obtain rfl : k = m.rules.length := by omega
      clear hlt
      have hsg : w.heap.size = g := HG.out
      have u0 := st.out.cell 0
      have u1 := st.out.cell 1
      have u2 := st.out.cell 2
      have r0 := st.res.cell 0
      have r1 := st.res.cell 1
      have r2 := st.res.cell 2
      have f0 := st.res.frozen 0
      have f1 := st.res.frozen 1
      have f2 := st.res.frozen 2
      simp only [List.getElem?_toArray, List.getElem?_cons_zero, List.getElem?_cons_succ] at u0 u1 u2 r0 r1 r2
      have d := (((st.res.set_ 0 (.int .i64 m.sy)).set_ 1 (.int .i64 m.st)).set_ 2 (.slice (some ⟨gr, 0, none⟩) m.rules.length cu)).cell
      have hf := own_far_blk st.own st.res (by decide)
      have hX9 := st.ext
      have ho9 := st.own
      have HRM : (renM m S Y).rules = renTo m S Y m.rules.length := rfl
      clear st
      go_wp2
      refine bodyPost_ret (v := .agg #[.int .i64 m.sy, .int .i64 m.st, .slice (some ⟨gr, 0, none⟩) m.rules.length cu]) (by simp [results, Try.results22, go_sem, d]) rfl ⟨_, rfl, ?_, ?_⟩
      · rw [HRM]
        exact ownsRow_far (ownsRow_far (ownsRow_far ho9 hf _) hf _) hf _
      · exact ((hX9.setCell (by simp only; omega) _).setCell (by simp only; omega) _).setCell (by simp only; omega) _
end Go.Proofs.Ytheokhgppmmjlaa
