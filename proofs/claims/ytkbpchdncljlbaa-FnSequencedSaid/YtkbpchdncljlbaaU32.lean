/- Contracts of the reference's copier and of its machine of palindromes.
Contract of the program's machine of two others in sequence. -/
import Derived.Test.YtkbpchdncljlbaaU29
import Derived.Test.YtkbpchdncljlbaaU31
import Derived.Deep.CutBlock
import Derived.Deep.DeepCutAuto
section
set_option linter.unusedVariables false
set_option linter.unusedSimpArgs false
namespace Go.Proofs.Ytkbpchdncljlbaa
open Go Go.RowKit Go.Proofs Go.Maps
set_option maxHeartbeats 400000
/-- A machine under construction: its block, that of the result, its rules. -/
structure OutM (w : World) (base g gO : Nat) (tp sy st : Int) (rs : List MRuleD) (v : Value) (wr : World) : Prop where
  out : Blk wr gO 29 #[.int .i64 0, .int .i64 0, .int .i64 0, .slice none 0 0]
  cur : Blk wr g 29 #[.int .i64 tp, .int .i64 sy, .int .i64 st, v]
  own : OwnMR base wr v rs
  ext : Ext w wr
theorem OutM.c3 {w : World} {base g gO : Nat} {tp sy st : Int} {rs : List MRuleD} {v : Value} {wr : World} (h : OutM w base g gO tp sy st rs v wr) : wr.cell? ⟨g, 3, none⟩ = some v := h.cur.cell 3
theorem OutM.step {w : World} {base g gO : Nat} {tp sy st : Int} {rs rs' : List MRuleD} {v v' : Value} {wr w' : World} (h : OutM w base g gO tp sy st rs v wr) (hne : gO ≠ g) (hw : w.heap.size ≤ base) (hg0 : w.heap.size ≤ g) (ho : OwnMR base w' v' rs') (hg : wr.grownBy w' v.ownBlock) :
    Blk w' g 29 #[.int .i64 tp, .int .i64 sy, .int .i64 st, v] ∧ OutM w base g gO tp sy st rs' v' (w'.setCell ⟨g, 3, none⟩ v') := by
  obtain ⟨cl, h1, h2⟩ := h.own
  have b1 := Blk.apart h.cur h1 (by decide) hg
  have b2 := Blk.apart h.out h1 (by decide) hg
  have hx : Ext w w' := h.ext.grown hg (fun q hq => by have := (h1.lt q hq).1; omega)
  exact ⟨b1, b2.far (p := ⟨g, 3, none⟩) hne _, b1.set_ 3 v', ho.far b1 (by decide) (by decide) 3 v', hx.setCell (p := ⟨g, 3, none⟩) hg0 v'⟩
theorem OutM.done {w : World} {base g gO : Nat} {tp sy st : Int} {rs : List MRuleD} {v : Value} {wr : World} (h : OutM w base g gO tp sy st rs v wr) (hw : w.heap.size ≤ base) (hg0 : w.heap.size ≤ gO) (u0 u1 u2 u3 : Value) :
    OwnMR w.heap.size ((((wr.setCell ⟨gO, 0, none⟩ u0).setCell ⟨gO, 1, none⟩ u1).setCell ⟨gO, 2, none⟩ u2).setCell ⟨gO, 3, none⟩ u3) v rs ∧ Ext w ((((wr.setCell ⟨gO, 0, none⟩ u0).setCell ⟨gO, 1, none⟩ u1).setCell ⟨gO, 2, none⟩ u2).setCell ⟨gO, 3, none⟩ u3) := by
  have b0 := h.out
  have b1 := b0.set_ 0 u0
  have b2 := b1.set_ 1 u1
  have b3 := b2.set_ 2 u2
  exact ⟨((((h.own.far b0 (by decide) (by decide) 0 u0).far b1 (by decide) (by decide) 1 u1).far b2 (by decide) (by decide) 2 u2).far b3 (by decide) (by decide) 3 u3).base hw,
    (((h.ext.setCell (p := ⟨gO, 0, none⟩) hg0 u0).setCell (p := ⟨gO, 1, none⟩) hg0 u1).setCell (p := ⟨gO, 2, none⟩) hg0 u2).setCell (p := ⟨gO, 3, none⟩) hg0 u3⟩
/-- The rules of the reference's machine of palindromes, as they are put in. -/
def palK : Nat → List MRuleD
  | 0 => insM (insM (insM [] (mkM 0 0 0 0 (-1) 0 1)) (mkM 1 0 0 0 1 (-1) 2)) (mkM 2 0 0 0 0 0 3)
  | k + 1 => insM (insM (insM (palK k) (mkM 0 ((k : Int) + 1) 0 ((k : Int) + 1) 1 1 0)) (mkM 1 ((k : Int) + 1) 0 0 (-1) 0 1)) (mkM 2 ((k : Int) + 1) ((k : Int) + 1) ((k : Int) + 1) 1 (-1) 2)
theorem palK_len : ∀ k, (palK k).length = 3 + 3 * k
  | 0 => by simp [palK, insM_len]
  | k + 1 => by
    have := palK_len k
    simp only [palK, insM_len]
    omega
theorem palK_ok {sy : Int} (h : sy = 2 ∨ sy = 3) : multiOk ⟨2, sy, 4, palK (sy.toNat - 1)⟩ = true := by
  rcases h with rfl | rfl <;> decide +kernel
theorem cpyK_ok {sy : Int} (h : sy = 2 ∨ sy = 3) : multiOk ⟨2, sy, 1, copyRs (sy.toNat - 1)⟩ = true := by
  rcases h with rfl | rfl <;> decide +kernel
set_option maxRecDepth 20000 in
set_option maxHeartbeats 8000000 in
theorem PalindromeMultiS_c (n : Nat) (w : World) (h1 : 2 ≤ n) (h2 : n ≤ 3) : Calls Try.prog 72 #[.int .i64 (n : Int)] w fun e w' => (∃ v, e = .returned (.tuple #[.agg #[.int .i64 2, .int .i64 (n : Int), .int .i64 4, v], .int .i64 0]) ∧ OwnMR w.heap.size w' v (palK (n - 1))) ∧ Ext w w' := by
  obtain ⟨g, hg⟩ : ∃ g, w.heap.size = g := ⟨_, rfl⟩
  obtain ⟨V, hV⟩ : ∃ V, V = w.alloc (.cells #[.int .i64 0, .int .i64 0, .int .i64 0, .slice none 0 0] 29) := ⟨_, rfl⟩
  have hX : Ext w V := by rw [hV]; exact Ext.alloc _ _
  have bV : Blk V g 29 #[.int .i64 0, .int .i64 0, .int .i64 0, .slice none 0 0] := by rw [hV]; exact Blk.new _ _ _ _ hg
  have hVs : V.heap.size = g + 1 := by rw [hV]; simp [hg]
  have WI := fun w => l00In_c (n : Int) 2 3 w
  have hb : inB (n : Int) 2 3 = true := inB_iff.2 ⟨by omega, by omega⟩
  rw [hb] at WI
  go_enter Try.func72, Try.ntmps72
  go_wp2_with fail
  try rw [← hV]
  try rw [hg]
  clear hV
  refine (WI V).mono ?_
  rintro e _ ⟨rfl, rfl⟩
  clear WI hb
  obtain ⟨W, hW⟩ : ∃ W, W = V.alloc (.cells #[.int .i64 2, .int .i64 (n : Int), .int .i64 4, .slice none 0 0] 29) := ⟨_, rfl⟩
  have eW : Ext V W := by rw [hW]; exact Ext.alloc _ _
  have bW : Blk W (g + 1) 29 #[.int .i64 2, .int .i64 (n : Int), .int .i64 4, .slice none 0 0] := by rw [hW]; exact Blk.new _ _ _ _ hVs
  have st0 : OutM w (g + 1 + 1) (g + 1) g 2 (n : Int) 4 [] (.slice none 0 0) W := ⟨bV.ext eW, bW, ⟨[], World.ownsRow_nil .., MCells.nil _ _⟩, hX.trans eW⟩
  have hsW : g + 1 + 1 ≤ W.heap.size := by have := bW.lt; omega
  have hgw : w.heap.size ≤ g + 1 + 1 := by omega
  have zD1 := Ext.drew W
  have z1 := zD1.cell st0.c3
  have hl1 : ((([] : List MRuleD)) : List MRuleD).length ≤ 1000000 := by simp
  go_wp2_with fail
  try rw [← hW]
  try clear hW
  refine wp_region_ordT 3 (readsT [0, 1] (.stir 2 .done)) (by kernel_rfl) (by kernel_rfl) (fun _ _ _ _ _ h => h) ?_
  simp only [readsT]
  iterate 2 (refine wpOrdT_read (v := ?_) (by rfl) (Or.inl ⟨by rfl, fun x hx => ?_⟩) ?_; rotate_left; (· have a1 := hx.cell z1; go_simp; try with_reducible rfl); try simp only [Act.put, List.setIfInBounds_toArray, List.set_cons_zero, List.set_cons_succ])
  refine wpOrdT_stir (by rfl) (fun K hK => ?_)
  go_simp
  go_at_call 93
  refine (l06Make_c 0 0 0 0 (-1) 0 1 W.drew).mono ?_
  rintro e wm1 ⟨A1, c1, A2, c2, A3, c3, rfl, hr, hx⟩
  refine hK _ _ hx ?_
  clear hK K
  try simp only [Act.put, List.setIfInBounds_toArray, List.set_cons_zero, List.set_cons_succ]
  refine wpOrdT_done ?_
  try simp only [List.drop_succ_cons, List.drop_zero]
  have hxm1 := zD1.trans hx
  have sm1 : OutM w (g + 1 + 1) (g + 1) g 2 (n : Int) 4 (([] : List MRuleD)) _ wm1 := ⟨st0.out.ext hxm1, st0.cur.ext hxm1, st0.own.ext hxm1, st0.ext.trans hxm1⟩
  have szm1 := hxm1.size
  have hsm1 : g + 1 + 1 ≤ wm1.heap.size := by omega
  have PU := l06Put_c (g + 1 + 1) _ _ _ _ wm1 sm1.own (hr.low (by have := zD1.size; omega)) hsm1 hl1
  clear hr hx z1 zD1 hxm1
  go_wp2_with fail
  refine PU.mono ?_
  rintro e wp1 ⟨v1, rfl, ho, hg1, _⟩
  have hlq : (insM ([] : List MRuleD) (mkM 0 0 0 0 (-1) 0 1)).length = ([] : List MRuleD).length + 1 := insM_len _ _
  obtain ⟨L1, hL⟩ : ∃ Lz, insM ([] : List MRuleD) (mkM 0 0 0 0 (-1) 0 1) = Lz := ⟨_, rfl⟩
  rw [hL] at ho hlq
  have hll1 := Lib.hid hlq
  clear hlq
  have HL1 := Lib.hid hL
  clear hL
  obtain ⟨R1, r1, rfl, _, _⟩ := ho.form
  obtain ⟨bc1, st1⟩ := sm1.step (by omega) (by omega) (by omega) ho hg1
  have sp1 := hg1.size
  have hs1 : g + 1 + 1 ≤ (wp1.setCell ⟨g + 1, 3, none⟩ (.slice R1 L1.length r1)).heap.size := by simp; omega
  have cb := bc1.cell
  have cf := bc1.frozen
  clear PU sm1 ho hg1 st0 bc1 szm1 hsm1 sp1 hsW
  have zD2 := Ext.drew (wp1.setCell ⟨g + 1, 3, none⟩ (.slice R1 L1.length r1))
  have z1 := zD2.cell st1.c3
  have hl2 : ((L1) : List MRuleD).length ≤ 1000000 := by have := hll1.out; simp at this; omega
  go_wp2_with fail
  try rw [← hW]
  try clear hW
  refine wp_region_ordT 3 (readsT [0, 1] (.stir 2 .done)) (by kernel_rfl) (by kernel_rfl) (fun _ _ _ _ _ h => h) ?_
  simp only [readsT]
  iterate 2 (refine wpOrdT_read (v := ?_) (by rfl) (Or.inl ⟨by rfl, fun x hx => ?_⟩) ?_; rotate_left; (· have a1 := hx.cell z1; go_simp; try with_reducible rfl); try simp only [Act.put, List.setIfInBounds_toArray, List.set_cons_zero, List.set_cons_succ])
  refine wpOrdT_stir (by rfl) (fun K hK => ?_)
  go_simp
  go_at_call 93
  refine (l06Make_c 1 0 0 0 1 (-1) 2 (wp1.setCell ⟨g + 1, 3, none⟩ (.slice R1 L1.length r1)).drew).mono ?_
  rintro e wm2 ⟨A1, c1, A2, c2, A3, c3, rfl, hr, hx⟩
  refine hK _ _ hx ?_
  clear hK K
  try simp only [Act.put, List.setIfInBounds_toArray, List.set_cons_zero, List.set_cons_succ]
  refine wpOrdT_done ?_
  try simp only [List.drop_succ_cons, List.drop_zero]
  have hxm2 := zD2.trans hx
  have sm2 : OutM w (g + 1 + 1) (g + 1) g 2 (n : Int) 4 (L1) _ wm2 := ⟨st1.out.ext hxm2, st1.cur.ext hxm2, st1.own.ext hxm2, st1.ext.trans hxm2⟩
  have szm2 := hxm2.size
  have hsm2 : g + 1 + 1 ≤ wm2.heap.size := by omega
  have PU := l06Put_c (g + 1 + 1) _ _ _ _ wm2 sm2.own (hr.low (by have := zD2.size; omega)) hsm2 hl2
  clear hr hx z1 zD2 hxm2
  go_wp2_with fail
  refine PU.mono ?_
  rintro e wp2 ⟨v2, rfl, ho, hg2, _⟩
  have hlq : (insM L1 (mkM 1 0 0 0 1 (-1) 2)).length = L1.length + 1 := insM_len _ _
  obtain ⟨L2, hL⟩ : ∃ Lz, insM L1 (mkM 1 0 0 0 1 (-1) 2) = Lz := ⟨_, rfl⟩
  rw [hL] at ho hlq
  have hll2 := Lib.hid hlq
  clear hlq
  have HL2 := Lib.hid hL
  clear hL
  obtain ⟨R2, r2, rfl, _, _⟩ := ho.form
  obtain ⟨bc2, st2⟩ := sm2.step (by omega) (by omega) (by omega) ho hg2
  have sp2 := hg2.size
  have hs2 : g + 1 + 1 ≤ (wp2.setCell ⟨g + 1, 3, none⟩ (.slice R2 L2.length r2)).heap.size := by simp; omega
  have cb := bc2.cell
  have cf := bc2.frozen
  clear PU sm2 ho hg2 st1 bc2 szm2 hsm2 sp2 hs1
  have zD3 := Ext.drew (wp2.setCell ⟨g + 1, 3, none⟩ (.slice R2 L2.length r2))
  have z1 := zD3.cell st2.c3
  have hl3 : ((L2) : List MRuleD).length ≤ 1000000 := by have := hll1.out; have := hll2.out; simp at *; omega
  go_wp2_with fail
  try rw [← hW]
  try clear hW
  refine wp_region_ordT 3 (readsT [0, 1] (.stir 2 .done)) (by kernel_rfl) (by kernel_rfl) (fun _ _ _ _ _ h => h) ?_
  simp only [readsT]
  iterate 2 (refine wpOrdT_read (v := ?_) (by rfl) (Or.inl ⟨by rfl, fun x hx => ?_⟩) ?_; rotate_left; (· have a1 := hx.cell z1; go_simp; try with_reducible rfl); try simp only [Act.put, List.setIfInBounds_toArray, List.set_cons_zero, List.set_cons_succ])
  refine wpOrdT_stir (by rfl) (fun K hK => ?_)
  go_simp
  go_at_call 93
  refine (l06Make_c 2 0 0 0 0 0 3 (wp2.setCell ⟨g + 1, 3, none⟩ (.slice R2 L2.length r2)).drew).mono ?_
  rintro e wm3 ⟨A1, c1, A2, c2, A3, c3, rfl, hr, hx⟩
  refine hK _ _ hx ?_
  clear hK K
  try simp only [Act.put, List.setIfInBounds_toArray, List.set_cons_zero, List.set_cons_succ]
  refine wpOrdT_done ?_
  try simp only [List.drop_succ_cons, List.drop_zero]
  have hxm3 := zD3.trans hx
  have sm3 : OutM w (g + 1 + 1) (g + 1) g 2 (n : Int) 4 (L2) _ wm3 := ⟨st2.out.ext hxm3, st2.cur.ext hxm3, st2.own.ext hxm3, st2.ext.trans hxm3⟩
  have szm3 := hxm3.size
  have hsm3 : g + 1 + 1 ≤ wm3.heap.size := by omega
  have PU := l06Put_c (g + 1 + 1) _ _ _ _ wm3 sm3.own (hr.low (by have := zD3.size; omega)) hsm3 hl3
  clear hr hx z1 zD3 hxm3
  go_wp2_with fail
  refine PU.mono ?_
  rintro e wp3 ⟨v3, rfl, ho, hg3, _⟩
  have hlq : (insM L2 (mkM 2 0 0 0 0 0 3)).length = L2.length + 1 := insM_len _ _
  obtain ⟨L3, hL⟩ : ∃ Lz, insM L2 (mkM 2 0 0 0 0 0 3) = Lz := ⟨_, rfl⟩
  rw [hL] at ho hlq
  have hll3 := Lib.hid hlq
  clear hlq
  have HL3 := Lib.hid hL
  clear hL
  obtain ⟨R3, r3, rfl, _, _⟩ := ho.form
  obtain ⟨bc3, st3⟩ := sm3.step (by omega) (by omega) (by omega) ho hg3
  have sp3 := hg3.size
  have hs3 : g + 1 + 1 ≤ (wp3.setCell ⟨g + 1, 3, none⟩ (.slice R3 L3.length r3)).heap.size := by simp; omega
  have cb := bc3.cell
  have cf := bc3.frozen
  clear PU sm3 ho hg3 st2 bc3 szm3 hsm3 sp3 hs2
  have HE : palK 0 = L3 := by rw [← HL3.out, ← HL2.out, ← HL1.out]; rfl
  go_wp2_with fail
  go_loopw [5] (fun u wr => ∃ (k : Nat) (v : Value) (L : List MRuleD), k + 1 ≤ n ∧ u = .int .i64 ((k : Int) + 1) ∧ Hid (palK k = L) ∧ OutM w (g + 1 + 1) (g + 1) g 2 (n : Int) 4 L v wr ∧ g + 1 + 1 ≤ wr.heap.size) (fun u _ => n - (intOf u).toNat)
  case atStart => exact ⟨0, _, _, by omega, rfl, HE, st3, hs3⟩
  case round =>
    clear st3 hs3 cb cf HE HL1 HL2 HL3 hll1 hll2 hll3
    obtain ⟨k, v, L, hk, rfl, HPK, stk, hsk⟩ := hrel
    obtain ⟨Rk, ck, rfl, _, _⟩ := stk.own.form
    have hlk := palK_len k
    rw [HPK.out] at hlk
    have HLK := Lib.hid hlk
    clear hlk
    by_cases hlt : k + 1 < n
    · have hlt2 : (k : Int) + 1 < (n : Int) := by omega
      have zD5 := Ext.drew wr
      have z1 := zD5.cell stk.c3
      have hl5 : ((L) : List MRuleD).length ≤ 1000000 := by have := HLK.out; omega
      go_wp2_with fail
      try rw [← hW]
      try clear hW
      refine wp_region_ordT 5 (readsT [0, 1, 2, 3] (.stir 4 .done)) (by kernel_rfl) (by kernel_rfl) (fun _ _ _ _ _ h => h) ?_
      simp only [readsT]
      iterate 4 (refine wpOrdT_read (v := ?_) (by rfl) (Or.inl ⟨by rfl, fun x hx => ?_⟩) ?_; rotate_left; (· have a1 := hx.cell z1; go_simp; try with_reducible rfl); try simp only [Act.put, List.setIfInBounds_toArray, List.set_cons_zero, List.set_cons_succ])
      refine wpOrdT_stir (by rfl) (fun K hK => ?_)
      go_simp
      go_at_call 93
      refine (l06Make_c 0 ((k : Int) + 1) 0 ((k : Int) + 1) 1 1 0 wr.drew).mono ?_
      rintro e wm5 ⟨A1, c1, A2, c2, A3, c3, rfl, hr, hx⟩
      refine hK _ _ hx ?_
      clear hK K
      try simp only [Act.put, List.setIfInBounds_toArray, List.set_cons_zero, List.set_cons_succ]
      refine wpOrdT_done ?_
      try simp only [List.drop_succ_cons, List.drop_zero]
      have hxm5 := zD5.trans hx
      have sm5 : OutM w (g + 1 + 1) (g + 1) g 2 (n : Int) 4 (L) _ wm5 := ⟨stk.out.ext hxm5, stk.cur.ext hxm5, stk.own.ext hxm5, stk.ext.trans hxm5⟩
      have szm5 := hxm5.size
      have hsm5 : g + 1 + 1 ≤ wm5.heap.size := by omega
      have PU := l06Put_c (g + 1 + 1) _ _ _ _ wm5 sm5.own (hr.low (by have := zD5.size; omega)) hsm5 hl5
      clear hr hx z1 zD5 hxm5
      go_wp2_with fail
      refine PU.mono ?_
      rintro e wp5 ⟨v5, rfl, ho, hg5, _⟩
      have hlq : (insM L (mkM 0 ((k : Int) + 1) 0 ((k : Int) + 1) 1 1 0)).length = L.length + 1 := insM_len _ _
      obtain ⟨L5, hL⟩ : ∃ Lz, insM L (mkM 0 ((k : Int) + 1) 0 ((k : Int) + 1) 1 1 0) = Lz := ⟨_, rfl⟩
      rw [hL] at ho hlq
      have hll5 := Lib.hid hlq
      clear hlq
      have HL5 := Lib.hid hL
      clear hL
      obtain ⟨R5, r5, rfl, _, _⟩ := ho.form
      obtain ⟨bc5, st5⟩ := sm5.step (by omega) (by omega) (by omega) ho hg5
      have sp5 := hg5.size
      have hs5 : g + 1 + 1 ≤ (wp5.setCell ⟨g + 1, 3, none⟩ (.slice R5 L5.length r5)).heap.size := by simp; omega
      have cb := bc5.cell
      have cf := bc5.frozen
      clear PU sm5 ho hg5 stk bc5 szm5 hsm5 sp5 hsk
      have zD6 := Ext.drew (wp5.setCell ⟨g + 1, 3, none⟩ (.slice R5 L5.length r5))
      have z1 := zD6.cell st5.c3
      have hl6 : ((L5) : List MRuleD).length ≤ 1000000 := by have := hll5.out; have := HLK.out; omega
      go_wp2_with fail
      try rw [← hW]
      try clear hW
      refine wp_region_ordT 4 (readsT [0, 1, 2] (.stir 3 .done)) (by kernel_rfl) (by kernel_rfl) (fun _ _ _ _ _ h => h) ?_
      simp only [readsT]
      iterate 3 (refine wpOrdT_read (v := ?_) (by rfl) (Or.inl ⟨by rfl, fun x hx => ?_⟩) ?_; rotate_left; (· have a1 := hx.cell z1; go_simp; try with_reducible rfl); try simp only [Act.put, List.setIfInBounds_toArray, List.set_cons_zero, List.set_cons_succ])
      refine wpOrdT_stir (by rfl) (fun K hK => ?_)
      go_simp
      go_at_call 93
      refine (l06Make_c 1 ((k : Int) + 1) 0 0 (-1) 0 1 (wp5.setCell ⟨g + 1, 3, none⟩ (.slice R5 L5.length r5)).drew).mono ?_
      rintro e wm6 ⟨A1, c1, A2, c2, A3, c3, rfl, hr, hx⟩
      refine hK _ _ hx ?_
      clear hK K
      try simp only [Act.put, List.setIfInBounds_toArray, List.set_cons_zero, List.set_cons_succ]
      refine wpOrdT_done ?_
      try simp only [List.drop_succ_cons, List.drop_zero]
      have hxm6 := zD6.trans hx
      have sm6 : OutM w (g + 1 + 1) (g + 1) g 2 (n : Int) 4 (L5) _ wm6 := ⟨st5.out.ext hxm6, st5.cur.ext hxm6, st5.own.ext hxm6, st5.ext.trans hxm6⟩
      have szm6 := hxm6.size
      have hsm6 : g + 1 + 1 ≤ wm6.heap.size := by omega
      have PU := l06Put_c (g + 1 + 1) _ _ _ _ wm6 sm6.own (hr.low (by have := zD6.size; omega)) hsm6 hl6
      clear hr hx z1 zD6 hxm6
      go_wp2_with fail
      refine PU.mono ?_
      rintro e wp6 ⟨v6, rfl, ho, hg6, _⟩
      have hlq : (insM L5 (mkM 1 ((k : Int) + 1) 0 0 (-1) 0 1)).length = L5.length + 1 := insM_len _ _
      obtain ⟨L6, hL⟩ : ∃ Lz, insM L5 (mkM 1 ((k : Int) + 1) 0 0 (-1) 0 1) = Lz := ⟨_, rfl⟩
      rw [hL] at ho hlq
      have hll6 := Lib.hid hlq
      clear hlq
      have HL6 := Lib.hid hL
      clear hL
      obtain ⟨R6, r6, rfl, _, _⟩ := ho.form
      obtain ⟨bc6, st6⟩ := sm6.step (by omega) (by omega) (by omega) ho hg6
      have sp6 := hg6.size
      have hs6 : g + 1 + 1 ≤ (wp6.setCell ⟨g + 1, 3, none⟩ (.slice R6 L6.length r6)).heap.size := by simp; omega
      have cb := bc6.cell
      have cf := bc6.frozen
      clear PU sm6 ho hg6 st5 bc6 szm6 hsm6 sp6 hs5
      have zD7 := Ext.drew (wp6.setCell ⟨g + 1, 3, none⟩ (.slice R6 L6.length r6))
      have z1 := zD7.cell st6.c3
      have hl7 : ((L6) : List MRuleD).length ≤ 1000000 := by have := hll5.out; have := hll6.out; have := HLK.out; omega
      go_wp2_with fail
      try rw [← hW]
      try clear hW
      refine wp_region_ordT 6 (readsT [0, 1, 2, 3, 4] (.stir 5 .done)) (by kernel_rfl) (by kernel_rfl) (fun _ _ _ _ _ h => h) ?_
      simp only [readsT]
      iterate 5 (refine wpOrdT_read (v := ?_) (by rfl) (Or.inl ⟨by rfl, fun x hx => ?_⟩) ?_; rotate_left; (· have a1 := hx.cell z1; go_simp; try with_reducible rfl); try simp only [Act.put, List.setIfInBounds_toArray, List.set_cons_zero, List.set_cons_succ])
      refine wpOrdT_stir (by rfl) (fun K hK => ?_)
      go_simp
      go_at_call 93
      refine (l06Make_c 2 ((k : Int) + 1) ((k : Int) + 1) ((k : Int) + 1) 1 (-1) 2 (wp6.setCell ⟨g + 1, 3, none⟩ (.slice R6 L6.length r6)).drew).mono ?_
      rintro e wm7 ⟨A1, c1, A2, c2, A3, c3, rfl, hr, hx⟩
      refine hK _ _ hx ?_
      clear hK K
      try simp only [Act.put, List.setIfInBounds_toArray, List.set_cons_zero, List.set_cons_succ]
      refine wpOrdT_done ?_
      try simp only [List.drop_succ_cons, List.drop_zero]
      have hxm7 := zD7.trans hx
      have sm7 : OutM w (g + 1 + 1) (g + 1) g 2 (n : Int) 4 (L6) _ wm7 := ⟨st6.out.ext hxm7, st6.cur.ext hxm7, st6.own.ext hxm7, st6.ext.trans hxm7⟩
      have szm7 := hxm7.size
      have hsm7 : g + 1 + 1 ≤ wm7.heap.size := by omega
      have PU := l06Put_c (g + 1 + 1) _ _ _ _ wm7 sm7.own (hr.low (by have := zD7.size; omega)) hsm7 hl7
      clear hr hx z1 zD7 hxm7
      go_wp2_with fail
      refine PU.mono ?_
      rintro e wp7 ⟨v7, rfl, ho, hg7, _⟩
      have hlq : (insM L6 (mkM 2 ((k : Int) + 1) ((k : Int) + 1) ((k : Int) + 1) 1 (-1) 2)).length = L6.length + 1 := insM_len _ _
      obtain ⟨L7, hL⟩ : ∃ Lz, insM L6 (mkM 2 ((k : Int) + 1) ((k : Int) + 1) ((k : Int) + 1) 1 (-1) 2) = Lz := ⟨_, rfl⟩
      rw [hL] at ho hlq
      have hll7 := Lib.hid hlq
      clear hlq
      have HL7 := Lib.hid hL
      clear hL
      obtain ⟨R7, r7, rfl, _, _⟩ := ho.form
      obtain ⟨bc7, st7⟩ := sm7.step (by omega) (by omega) (by omega) ho hg7
      have sp7 := hg7.size
      have hs7 : g + 1 + 1 ≤ (wp7.setCell ⟨g + 1, 3, none⟩ (.slice R7 L7.length r7)).heap.size := by simp; omega
      have cb := bc7.cell
      have cf := bc7.frozen
      clear PU sm7 ho hg7 st6 bc7 szm7 hsm7 sp7 hs6
      have HSN : Hid (palK (k + 1) = L7) := Lib.hid (by rw [← HL7.out, ← HL6.out, ← HL5.out, ← HPK.out]; rfl)
      have HST := Lib.hid st7
      clear st7 HPK HL5 HL6 HL7
      go_wp2_with fail
      go_roundw
      case rel => exact ⟨k + 1, _, _, by omega, by go_num, HSN, HST.out, hs7⟩
      case measure => simp [intOf]; omega
    · obtain rfl : n = k + 1 := by omega
      have HD := Lib.hid (stk.done (by omega) (by omega))
      have hq0 := stk.cur.cell 0
      have hq1 := stk.cur.cell 1
      have hq2 := stk.cur.cell 2
      have hq3 := stk.cur.cell 3
      simp only [List.getElem?_toArray, List.getElem?_cons_zero, List.getElem?_cons_succ] at hq0 hq1 hq2 hq3
      have ob := stk.out.cell
      have of_ := stk.out.frozen
      generalize hLL : L.length = nl at *
      have HLL := Lib.hid hLL
      clear stk hLL
      go_wp2_with fail
      refine bodyPost_ret (v := .tuple #[.agg #[.int .i64 2, .int .i64 ((k + 1 : Nat) : Int), .int .i64 4, .slice Rk nl ck], .int .i64 0]) (by simp [results, Try.results72, go_sem, ob]) rfl ⟨⟨_, rfl, ?_⟩, (HD.out _ _ _ _).2⟩
      rw [show k + 1 - 1 = k from rfl, HPK.out]
      exact (HD.out _ _ _ _).1
set_option maxRecDepth 20000 in
set_option maxHeartbeats 8000000 in
theorem CopyMultiS_c (n : Nat) (w : World) (h1 : 2 ≤ n) (h2 : n ≤ 3) : Calls Try.prog 71 #[.int .i64 (n : Int)] w fun e w' => (∃ v, e = .returned (.tuple #[.agg #[.int .i64 2, .int .i64 (n : Int), .int .i64 1, v], .int .i64 0]) ∧ OwnMR w.heap.size w' v (copyRs (n - 1))) ∧ Ext w w' := by
  obtain ⟨i0, hi0, hz0, hz1, hz2⟩ := info_parts mruleInfo
  obtain ⟨g, hg⟩ : ∃ g, w.heap.size = g := ⟨_, rfl⟩
  obtain ⟨V, hV⟩ : ∃ V, V = w.alloc (.cells #[.int .i64 0, .int .i64 0, .int .i64 0, .slice none 0 0] 29) := ⟨_, rfl⟩
  have hX : Ext w V := by rw [hV]; exact Ext.alloc _ _
  have bV : Blk V g 29 #[.int .i64 0, .int .i64 0, .int .i64 0, .slice none 0 0] := by rw [hV]; exact Blk.new _ _ _ _ hg
  have hVs : V.heap.size = g + 1 := by rw [hV]; simp [hg]
  have WI := fun w => l00In_c (n : Int) 2 3 w
  have hb : inB (n : Int) 2 3 = true := inB_iff.2 ⟨by omega, by omega⟩
  rw [hb] at WI
  go_enter Try.func71, Try.ntmps71
  go_wp2_with fail
  try rw [← hV]
  try rw [hg]
  clear hV
  refine (WI V).mono ?_
  rintro e _ ⟨rfl, rfl⟩
  clear WI hb
  obtain ⟨W, hW⟩ : ∃ W, W = V.alloc (.cells #[.int .i64 2, .int .i64 (n : Int), .int .i64 1, .slice none 0 0] 29) := ⟨_, rfl⟩
  have eW : Ext V W := by rw [hW]; exact Ext.alloc _ _
  have bW : Blk W (g + 1) 29 #[.int .i64 2, .int .i64 (n : Int), .int .i64 1, .slice none 0 0] := by rw [hW]; exact Blk.new _ _ _ _ hVs
  have st0 : OutM w (g + 1 + 1) (g + 1) g 2 (n : Int) 1 [] (.slice none 0 0) W := ⟨bV.ext eW, bW, ⟨[], World.ownsRow_nil .., MCells.nil _ _⟩, hX.trans eW⟩
  have hsW : g + 1 + 1 ≤ W.heap.size := by have := bW.lt; omega
  have hgw : w.heap.size ≤ g + 1 + 1 := by omega
  go_wp2_with fail
  try rw [← hW]
  clear hW
  go_loopw [5] (fun u wr => ∃ (k : Nat) (v : Value), k + 1 ≤ n ∧ u = .int .i64 ((k : Int) + 1) ∧ OutM w (g + 1 + 1) (g + 1) g 2 (n : Int) 1 (copyRs k) v wr ∧ g + 1 + 1 ≤ wr.heap.size) (fun u _ => n - (intOf u).toNat)
  case atStart => exact ⟨0, _, by omega, rfl, st0, hsW⟩
  case round =>
    clear st0 hsW
    obtain ⟨k, v, hk, rfl, st, hsk⟩ := hrel
    by_cases hlt : k + 1 < n
    · have hlt2 : (k : Int) + 1 < (n : Int) := by omega
      obtain ⟨cl, ho, hcl⟩ := st.own
      rw [copyRs_len] at ho
      obtain ⟨Av, cv, rfl, _, _, _⟩ := (ownsRow_row ho).form
      have zD := Ext.drew wr
      have z1 := zD.cell st.c3
      go_wp2_with fail
      refine wp_region_ordT 6 (readsT [0, 1, 2, 3] (.stir 4 (.stir 5 .done))) (by kernel_rfl) (by kernel_rfl) (fun _ _ _ _ _ h => h) ?_
      simp only [readsT]
      iterate 4 (refine wpOrdT_read (v := ?_) (by rfl) (Or.inl ⟨by rfl, fun x hx => ?_⟩) ?_; rotate_left; (· have a1 := hx.cell z1; go_simp; try with_reducible rfl); try simp only [Act.put, List.setIfInBounds_toArray, List.set_cons_zero, List.set_cons_succ])
      refine wpOrdT_stir (by rfl) (fun K hK => ?_)
      go_simp
      go_at_call 93
      refine (l06Make_c 0 ((k : Int) + 1) 0 ((k : Int) + 1) 1 1 0 wr.drew).mono ?_
      rintro e w3 ⟨A1, c1, A2, c2, A3, c3, rfl, hr, hx⟩
      refine hK _ _ hx ?_
      clear hK K
      try simp only [Act.put, List.setIfInBounds_toArray, List.set_cons_zero, List.set_cons_succ]
      refine wpOrdT_stir (by rfl) (fun K hK => ?_)
      go_simp
      have eA := Ext.alloc w3 (.cells #[.int .i64 0, .slice A1 2 c1, .slice A2 2 c2, .slice A3 2 c3, .int .i64 0] 70)
      refine hK _ _ eA ?_
      clear hK K
      try simp only [Act.put, List.setIfInBounds_toArray, List.set_cons_zero, List.set_cons_succ]
      refine wpOrdT_done ?_
      try simp only [List.drop_succ_cons, List.drop_zero]
      obtain ⟨W6, hW6⟩ : ∃ W6, W6 = w3.alloc (.cells #[.int .i64 0, .slice A1 2 c1, .slice A2 2 c2, .slice A3 2 c3, .int .i64 0] 70) := ⟨_, rfl⟩
      rw [← hW6] at eA
      have bN : Blk W6 w3.heap.size 70 #[.int .i64 0, .slice A1 2 c1, .slice A2 2 c2, .slice A3 2 c3, .int .i64 0] := by rw [hW6]; exact Blk.new _ _ _ _ rfl
      have hX6 := (zD.trans hx).trans eA
      have ho6 := ownsRow_ext ho hX6
      have szz := hX6.size
      have zs := zD.size
      have s6 : OutM w (g + 1 + 1) (g + 1) g 2 (n : Int) 1 (copyRs k) (.slice Av k cv) W6 := ⟨st.out.ext hX6, st.cur.ext hX6, st.own.ext hX6, st.ext.trans hX6⟩
      have hNL : MCells (g + 1 + 1) W6 [.int .i64 0, .slice A1 2 c1, .slice A2 2 c2, .slice A3 2 c3, .int .i64 0] [copyR ((k : Int) + 1)] := by
        obtain ⟨_, _, _, he, o1, o2, o3⟩ := hr.low (show g + 1 + 1 ≤ wr.drew.heap.size by omega)
        injection he with he
        simp only [mcell, Array.mk.injEq, List.cons.injEq, and_true] at he
        obtain ⟨_, rfl, rfl, rfl, _⟩ := he
        exact MCells.one (OwnInts.ext o1 eA) (OwnInts.ext o2 eA) (OwnInts.ext o3 eA)
      clear hr hx z1 zD
      go_wp2_with (at_builtin; rw [← hW6]; refine wpList_append_own_at _ rfl _ _ 27 rfl (g + 1 + 1) 70 i0 (.agg #[.int .i64 0, .slice none 0 0, .slice none 0 0, .slice none 0 0, .int .i64 0]) 5 88 Try.underlying27 hi0 hz0 hz1 hz2 rfl (by decide) _ _ cl rfl ho6 ⟨w3.heap.size, 0, none⟩ 1 1 [.int .i64 0, .slice A1 2 c1, .slice A2 2 c2, .slice A3 2 c3, .int .i64 0] rfl rfl (World.news_of_block bN) ?c2 ?c3 ?c4 ?c5 ?_)
      case c2 => intro u hu; simp at hu; rcases hu with rfl | rfl | rfl | rfl | rfl <;> rfl
      case c3 => unfold maxLen; omega
      case c4 => omega
      case c5 => omega
      intro v' w7 hown7 hg7 _ _
      have hg7' : W6.grownBy w7 (Value.slice Av k cv).ownBlock := by first | exact hg7 | (rw [hW6]; exact hg7)
      have HS : OwnMR (g + 1 + 1) w7 v' (copyRs (k + 1)) := by
        rw [copyRs_succ]
        exact OwnMR.push (by rw [copyRs_len]; exact ho6) (hcl.ext hX6) hNL (by rw [copyRs_len]; rfl) hown7 hg7'
      obtain ⟨A7, c7, rfl, _, _, _⟩ := (ownsRow_row hown7).form
      obtain ⟨b7, st7⟩ := s6.step (by omega) (by omega) (by omega) HS hg7'
      have HST := Lib.hid st7
      have cb := b7.cell
      have cf := b7.frozen
      have sg := hg7'.size
      have HSZ : Hid (g + 1 + 1 ≤ (w7.setCell ⟨g + 1, 3, none⟩ (.slice A7 (k + 1) c7)).heap.size) := Lib.hid (by simp; omega)
      clear hW6 eA bN hX6 ho6 s6 hNL hown7 hg7 hg7' HS b7 st7 ho hcl st sg
      go_wp2_with fail
      go_roundw
      case rel => exact ⟨k + 1, _, by omega, by go_num, HST.out, HSZ.out⟩
      case measure => simp [intOf]; omega
    · obtain rfl : n = k + 1 := by omega
      obtain ⟨Rk, ck, rfl, _, _⟩ := st.own.form
      have HD := Lib.hid (st.done (by omega) (by omega))
      have hq0 := st.cur.cell 0
      have hq1 := st.cur.cell 1
      have hq2 := st.cur.cell 2
      have hq3 := st.cur.cell 3
      simp only [List.getElem?_toArray, List.getElem?_cons_zero, List.getElem?_cons_succ] at hq0 hq1 hq2 hq3
      have ob := st.out.cell
      have of_ := st.out.frozen
      generalize hLL : (copyRs k).length = nl at *
      clear st hLL
      go_wp2_with fail
      refine bodyPost_ret (v := .tuple #[.agg #[.int .i64 2, .int .i64 ((k + 1 : Nat) : Int), .int .i64 1, .slice Rk nl ck], .int .i64 0]) (by simp [results, Try.results71, go_sem, ob]) rfl ⟨⟨_, rfl, ?_⟩, (HD.out _ _ _ _).2⟩
      rw [show k + 1 - 1 = k from rfl]
      exact (HD.out _ _ _ _).1
end Go.Proofs.Ytkbpchdncljlbaa
end
section
set_option linter.unusedVariables false
set_option linter.unusedSimpArgs false
namespace Go.Proofs.Ytkbpchdncljlbaa
open Go Go.RowKit Go.Proofs Go.Maps
set_option maxHeartbeats 400000
/-- While the rules of the machine in sequence are gathered. -/
structure SeqM (w : World) (base ga gm gO : Nat) (a b : MultiD) (rva rvb : Value) (rs : List MRuleD) (v : Value) (W : World) : Prop where
  om : OutM w base gm gO a.tp a.sy (a.st + b.st) rs v W
  ba : Blk W ga 29 #[.int .i64 a.tp, .int .i64 a.sy, .int .i64 a.st, rva]
  bb : Blk W (ga + 1) 29 #[.int .i64 b.tp, .int .i64 b.sy, .int .i64 b.st, rvb]
  bas : base ≤ W.heap.size
theorem SeqM.ext {w : World} {base ga gm gO : Nat} {a b : MultiD} {rva rvb : Value} {rs : List MRuleD} {v : Value} {W W' : World} (h : SeqM w base ga gm gO a b rva rvb rs v W) (he : Ext W W') : SeqM w base ga gm gO a b rva rvb rs v W' :=
  ⟨⟨h.om.out.ext he, h.om.cur.ext he, h.om.own.ext he, h.om.ext.trans he⟩, h.ba.ext he, h.bb.ext he, Nat.le_trans h.bas he.size⟩
/-- One more rule. -/
theorem SeqM.push {w : World} {base ga gm gO : Nat} {a b : MultiD} {rva rvb : Value} {rs : List MRuleD} {r : MRuleD} {v v' x1 x2 x3 : Value} {cl : List Value} {W W' : World} (h : SeqM w base ga gm gO a b rva rvb rs v W) (hw : w.heap.size ≤ base) (hg0 : w.heap.size ≤ gm) (h1 : gO ≠ gm) (h2 : ga ≠ gm) (h3 : ga + 1 ≠ gm)
    (ho : W.ownsRow base 70 5 v rs.length cl) (hcl : MCells base W cl rs) (o1 : OwnInts base W x1 r.rd) (o2 : OwnInts base W x2 r.wr) (o3 : OwnInts base W x3 r.mv)
    (hown : W'.ownsRow base 70 5 v' (rs.length + 1) (cl ++ mcell r x1 x2 x3)) (hg : W.grownBy W' v.ownBlock) :
    SeqM w base ga gm gO a b rva rvb (rs ++ [r]) v' (W'.setCell ⟨gm, 3, none⟩ v') ∧ Blk W' gm 29 #[.int .i64 a.tp, .int .i64 a.sy, .int .i64 (a.st + b.st), v] := by
  have hs : OwnMR base W' v' (rs ++ [r]) := OwnMR.push ho hcl (MCells.one o1 o2 o3) (by simp) hown hg
  obtain ⟨b1, st⟩ := h.om.step h1 hw hg0 hs hg
  exact ⟨⟨st, (Blk.apart h.ba ho (by decide) hg).far (p := ⟨gm, 3, none⟩) h2 _, (Blk.apart h.bb ho (by decide) hg).far (p := ⟨gm, 3, none⟩) h3 _, by have := h.bas; have := hg.size; simp; omega⟩, b1⟩
theorem preL_pos {a b : MultiD} (ha : multiOk a = true) : 0 < (preL a b).length := by
  obtain ⟨⟨t1, t2⟩, ⟨y1, y2⟩, ⟨s1, s2⟩, _, _⟩ := multi_all ha
  by_cases h : 0 < a.rules.length
  · unfold preL
    rw [List.length_append, List.length_append]
    omega
  · have hr : a.rules = [] := List.length_eq_zero_iff.1 (by omega)
    have : hltR a ((0 : Nat) : Int) (List.replicate a.tp.toNat 0) ∈ haltRs a := mem_haltRs.2 ⟨0, _, by omega, by simp, fun z hz => by
      have : z = 0 := (List.mem_replicate.1 hz).2
      omega, fun r' hr' => by rw [hr] at hr'; simp at hr', rfl⟩
    have := List.length_pos_of_mem this
    unfold preL
    rw [List.length_append, List.length_append]
    omega
theorem haltRs_succ {a : MultiD} (k : Nat) : ((List.range (k + 1)).flatMap fun (q : Nat) => (haltReads a q).map (hltR a q)) = ((List.range k).flatMap fun (q : Nat) => (haltReads a q).map (hltR a q)) ++ (haltReads a (k : Int)).map (hltR a (k : Int)) := by
  rw [List.range_succ, List.flatMap_append]
  simp
theorem haltReads_len (m : MultiD) (hm : multiOk m = true) (q : Int) : (haltReads m q).length ≤ 27 := by
  obtain ⟨⟨t1, t2⟩, ⟨y1, y2⟩, _⟩ := multi_all hm
  unfold haltReads
  refine Nat.le_trans (List.length_filter_le _ _) ?_
  rw [allS_len]
  have h1 : m.tp.toNat = 2 ∨ m.tp.toNat = 3 := by omega
  have h2 : m.sy.toNat = 2 ∨ m.sy.toNat = 3 := by omega
  rcases h1 with h1 | h1 <;> rcases h2 with h2 | h2 <;> rw [h1, h2] <;> decide
theorem haltPart_len (m : MultiD) (hm : multiOk m = true) : ∀ k, ((List.range k).flatMap fun (q : Nat) => (haltReads m q).map (hltR m q)).length ≤ 27 * k
  | 0 => by simp
  | k + 1 => by
    rw [haltRs_succ, List.length_append, List.length_map]
    have := haltPart_len m hm k
    have := haltReads_len m hm (k : Int)
    omega
theorem OwnMR.at {base : Nat} {w : World} {A : Option Addr} {c : Nat} {rs : List MRuleD} (h : OwnMR base w (.slice A rs.length c) rs) {k : Nat} (hk : k < rs.length) : ∃ g vr vw vm, A = some ⟨g, 0, none⟩ ∧ w.cell? ⟨g, k * 5, none⟩ = some (.int .i64 rs[k].st) ∧ w.cell? ⟨g, k * 5 + 1, none⟩ = some vr ∧ w.cell? ⟨g, k * 5 + 2, none⟩ = some vw ∧ w.cell? ⟨g, k * 5 + 3, none⟩ = some vm ∧ w.cell? ⟨g, k * 5 + 4, none⟩ = some (.int .i64 rs[k].nx) ∧
    OwnInts base w vr rs[k].rd ∧ OwnInts base w vw rs[k].wr ∧ OwnInts base w vm rs[k].mv := by
  obtain ⟨cl, h1, h2⟩ := h
  obtain ⟨g, rfl, _, _⟩ := own_at h1 (by omega)
  obtain ⟨vr, vw, vm, c0, c1, c2, c3, c4, o⟩ := h2.2 k hk
  have hc := fun j (hj : j < rs.length * 5) => World.ownsRow.cellAt h1 j hj
  exact ⟨g, vr, vw, vm, rfl, (hc _ (by omega)).trans c0, (hc _ (by omega)).trans c1, (hc _ (by omega)).trans c2, (hc _ (by omega)).trans c3, (hc _ (by omega)).trans c4, o⟩
theorem OwnLL.grown {b1 b2 base n : Nat} {w w' : World} {u v : Value} {xss : List (List Int)} {xs : List Value} (h : OwnLL b1 b2 w u xss) (ho : w.ownsRow base 70 5 v n xs) (hg : w.grownBy w' v.ownBlock) : OwnLL b1 b2 w' u xss := by
  obtain ⟨cl, h1, h2⟩ := h
  have key : ∀ {e : TypeId} {size k : Nat} {b : Nat} {z : Value} {zs : List Value}, e ≠ 70 → w.ownsRow b e size z k zs → w'.ownsRow b e size z k zs := fun {e size k b z zs} hne o => own_same o fun p hp => by
    rcases o.2 with ⟨rfl, _⟩ | ⟨g', cap, cur, rfl, _, hh, _⟩
    · simp [Value.ownBlock] at hp
    · simp [Value.ownBlock] at hp
      subst hp
      have hb : Blk w g' e cur := hh
      exact hg.block g' hb.lt (blk_ne_row hb ho hne)
  exact ⟨cl, key (by decide) h1, fun i hi => by obtain ⟨u, e, o⟩ := h2 i hi; exact ⟨u, e, key (by decide) o⟩⟩
theorem OwnLL.far {b1 b2 : Nat} {w : World} {u : Value} {xss : List (List Int)} (h : OwnLL b1 b2 w u xss) {g : Nat} {t : TypeId} {cs : Array Value} (hb : Blk w g t cs) (n1 : t ≠ 24) (n2 : t ≠ 2) (i : Nat) (y : Value) : OwnLL b1 b2 (w.setCell ⟨g, i, none⟩ y) u xss := by
  obtain ⟨cl, h1, h2⟩ := h
  have key : ∀ {e : TypeId} {size k : Nat} {b : Nat} {z : Value} {zs : List Value}, t ≠ e → w.ownsRow b e size z k zs → (w.setCell ⟨g, i, none⟩ y).ownsRow b e size z k zs := fun {e size k b z zs} hne o => ownsRow_far o (fun q hq e' => by
    have e' : q = g := e'
    subst e'
    exact blk_ne_row hb o hne hq.symm) y
  exact ⟨cl, key n1 h1, fun i hi => by obtain ⟨u, e, o⟩ := h2 i hi; exact ⟨u, e, key n2 o⟩⟩
theorem haltReads_mem {m : MultiD} (hm : multiOk m = true) {q : Int} {xs : List Int} (h : xs ∈ haltReads m q) : (xs.length : Int) = m.tp := by
  obtain ⟨⟨t1, t2⟩, _⟩ := multi_all hm
  have := (mem_allS.1 (List.mem_filter.1 h).1).1
  omega
theorem zeros_own {w : World} {base g n : Nat} (h : w.ownsRow base 2 1 (.slice (some ⟨g, 0, none⟩) n n) n (madeCells (Value.int .i64 0).cells (n * 1)).toList) : OwnInts base w (.slice (some ⟨g, 0, none⟩) n n) (List.replicate n 0) := by
  unfold OwnInts
  have e : ivs (List.replicate n 0) = (madeCells (Value.int .i64 0).cells (n * 1)).toList := by
    rw [Nat.mul_one]
    show _ = (madeCells #[Value.int .i64 0] n).toList
    rw [toList_madeCells_one]
    simp [ivs]
  rw [e, List.length_replicate]
  exact h
/-- What the machine in sequence gives. -/
def SeqOut (a b : MultiD) (e : Ending) (w' : World) : Prop :=
  (¬ (a.tp = b.tp ∧ a.sy = b.sy) ∧ e = .returned (.tuple #[.agg #[.int .i64 0, .int .i64 0, .int .i64 0, .slice none 0 0], .int .i64 2])) ∨
  (a.tp = b.tp ∧ a.sy = b.sy ∧ (16 < a.st + b.st ∨ 60 < (preL a b).length) ∧ e = .returned (.tuple #[.agg #[.int .i64 0, .int .i64 0, .int .i64 0, .slice none 0 0], .int .i64 5])) ∨
  (∃ s v, SeqOf a b s ∧ s.tp = a.tp ∧ s.sy = a.sy ∧ e = .returned (.tuple #[.agg #[.int .i64 s.tp, .int .i64 s.sy, .int .i64 s.st, v], .int .i64 0]) ∧ MRules w' v s.rules)
set_option maxRecDepth 20000 in
set_option maxHeartbeats 16000000 in
theorem SequenceMulti_c (a b : MultiD) (base1 base2 : Nat) (rva rvb : Value) (w : World) (ha : OwnMR base1 w rva a.rules) (hb : OwnMR base2 w rvb b.rules) (oa : multiOk a = true) (ob : multiOk b = true) :
    Calls Try.prog 15 #[.agg #[.int .i64 a.tp, .int .i64 a.sy, .int .i64 a.st, rva], .agg #[.int .i64 b.tp, .int .i64 b.sy, .int .i64 b.st, rvb]] w fun e w' => SeqOut a b e w' ∧ Ext w w' := by
  obtain ⟨i0, hi0, hz0, hz1, hz2⟩ := info_parts mruleInfo
  obtain ⟨j0, hj0, hjz0, hjz1, hjz2⟩ := info_parts intInfo
  obtain ⟨A, ca, rfl, _, _⟩ := ha.form
  obtain ⟨B, cb, rfl, _, _⟩ := hb.form
  obtain ⟨⟨at1, at2⟩, ⟨ay1, ay2⟩, ⟨as1, as2⟩, al, _⟩ := multi_all oa
  obtain ⟨_, _, ⟨bs1, bs2⟩, bl, _⟩ := multi_all ob
  obtain ⟨g, hg⟩ : ∃ g, w.heap.size = g := ⟨_, rfl⟩
  obtain ⟨V, hV⟩ : ∃ V, V = ((w.alloc (.cells #[.int .i64 a.tp, .int .i64 a.sy, .int .i64 a.st, .slice A a.rules.length ca] 29)).alloc (.cells #[.int .i64 b.tp, .int .i64 b.sy, .int .i64 b.st, .slice B b.rules.length cb] 29)).alloc (.cells #[.int .i64 0, .int .i64 0, .int .i64 0, .slice none 0 0] 29) := ⟨_, rfl⟩
  have hX : Ext w V := by rw [hV]; exact ((Ext.alloc _ _).trans (Ext.alloc _ _)).trans (Ext.alloc _ _)
  have bA : Blk V g 29 #[.int .i64 a.tp, .int .i64 a.sy, .int .i64 a.st, .slice A a.rules.length ca] := by rw [hV]; exact ((Blk.new _ _ _ _ hg).alloc _).alloc _
  have bB : Blk V (g + 1) 29 #[.int .i64 b.tp, .int .i64 b.sy, .int .i64 b.st, .slice B b.rules.length cb] := by rw [hV]; exact (Blk.new _ _ _ _ (by simp [hg])).alloc _
  have bO : Blk V (g + 1 + 1) 29 #[.int .i64 0, .int .i64 0, .int .i64 0, .slice none 0 0] := by rw [hV]; exact Blk.new _ _ _ _ (by simp [hg])
  have VA := ValidMulti_c (.agg #[.int .i64 a.tp, .int .i64 a.sy, .int .i64 a.st, .slice A a.rules.length ca]) a V ⟨_, rfl, ha.rules.ext hX⟩
  rw [oa] at VA
  have VB := fun W (h : Ext V W) => ValidMulti_c (.agg #[.int .i64 b.tp, .int .i64 b.sy, .int .i64 b.st, .slice B b.rules.length cb]) b W ⟨_, rfl, hb.rules.ext (hX.trans h)⟩
  rw [ob] at VB
  have m0 : V.cell? ⟨g, 0, none⟩ = some (.int .i64 a.tp) := bA.cell 0
  have m1 : V.cell? ⟨g, 1, none⟩ = some (.int .i64 a.sy) := bA.cell 1
  have m2 : V.cell? ⟨g, 2, none⟩ = some (.int .i64 a.st) := bA.cell 2
  have m3 : V.cell? ⟨g, 3, none⟩ = some (.slice A a.rules.length ca) := bA.cell 3
  have HA := Lib.hid ha
  have HB := Lib.hid hb
  have HG := Lib.hid hg
  have HOA := Lib.hid oa
  have HOB := Lib.hid ob
  clear ha hb oa ob
  go_enter Try.func15, Try.ntmps15
  go_wp2_with fail
  try rw [← hV]
  try rw [hg]
  clear hV hg
  refine VA.mono ?_
  rintro e w1 ⟨rfl, hx1⟩
  have n0 : w1.cell? ⟨g + 1, 0, none⟩ = some (.int .i64 b.tp) := (bB.ext hx1).cell 0
  have n1 : w1.cell? ⟨g + 1, 1, none⟩ = some (.int .i64 b.sy) := (bB.ext hx1).cell 1
  have n2 : w1.cell? ⟨g + 1, 2, none⟩ = some (.int .i64 b.st) := (bB.ext hx1).cell 2
  have n3 : w1.cell? ⟨g + 1, 3, none⟩ = some (.slice B b.rules.length cb) := (bB.ext hx1).cell 3
  have VB1 := VB w1 hx1
  clear VA VB m0 m1 m2 m3
  go_wp2_with fail
  refine VB1.mono ?_
  rintro e w2 ⟨rfl, hx2⟩
  have hx12 := hx1.trans hx2
  have bA2 := bA.ext hx12
  have bB2 := bB.ext hx12
  have bO2 := bO.ext hx12
  have hX2 := hX.trans hx12
  have hgw : w.heap.size ≤ g + 1 + 1 := by have := HG.out; omega
  have m0 : w2.cell? ⟨g, 0, none⟩ = some (.int .i64 a.tp) := bA2.cell 0
  have m1 : w2.cell? ⟨g, 1, none⟩ = some (.int .i64 a.sy) := bA2.cell 1
  have m2 : w2.cell? ⟨g, 2, none⟩ = some (.int .i64 a.st) := bA2.cell 2
  have n0 : w2.cell? ⟨g + 1, 0, none⟩ = some (.int .i64 b.tp) := bB2.cell 0
  have n1 : w2.cell? ⟨g + 1, 1, none⟩ = some (.int .i64 b.sy) := bB2.cell 1
  have n2 : w2.cell? ⟨g + 1, 2, none⟩ = some (.int .i64 b.st) := bB2.cell 2
  have cO := bO2.cell
  have fO := bO2.frozen
  have HEX : Hid (∀ u0 u1 u2 u3, Ext w ((((w2.setCell ⟨g + 1 + 1, 0, none⟩ u0).setCell ⟨g + 1 + 1, 1, none⟩ u1).setCell ⟨g + 1 + 1, 2, none⟩ u2).setCell ⟨g + 1 + 1, 3, none⟩ u3)) := Lib.hid fun u0 u1 u2 u3 =>
    (((hX2.setCell (p := ⟨g + 1 + 1, 0, none⟩) hgw u0).setCell (p := ⟨g + 1 + 1, 1, none⟩) hgw u1).setCell (p := ⟨g + 1 + 1, 2, none⟩) hgw u2).setCell (p := ⟨g + 1 + 1, 3, none⟩) hgw u3
  clear VB1 bA bB bO hX hx1 hx2 hx12
  by_cases hsame : a.tp = b.tp ∧ a.sy = b.sy
  · obtain ⟨htp, hsy⟩ := hsame
    have e1 : (a.tp != b.tp) = false := by simp [htp]
    have e2 : (a.sy != b.sy) = false := by simp [hsy]
    have HTP : Hid (a.tp = b.tp) := htp
    have HSY : Hid (a.sy = b.sy) := hsy
    obtain ⟨gm, hgm⟩ : ∃ g, w2.heap.size = g := ⟨_, rfl⟩
    have hws : IntKind.i64.wrap (a.st + b.st) = a.st + b.st := IntWalk.i64_in _ (by omega)
    obtain ⟨W3, hW3⟩ : ∃ W, W = w2.alloc (.cells #[.int .i64 a.tp, .int .i64 a.sy, .int .i64 (a.st + b.st), .slice none 0 0] 29) := ⟨_, rfl⟩
    have e3 : Ext w2 W3 := by rw [hW3]; exact Ext.alloc _ _
    have bm3 : Blk W3 gm 29 #[.int .i64 a.tp, .int .i64 a.sy, .int .i64 (a.st + b.st), .slice none 0 0] := by rw [hW3]; exact Blk.new _ _ _ _ hgm
    have hgl : g + 1 + 1 < gm := by rw [← hgm]; exact bO2.lt
    have st0 : SeqM w (gm + 1) g gm (g + 1 + 1) a b (.slice A a.rules.length ca) (.slice B b.rules.length cb) (a.rules.take 0) (.slice none 0 0) W3 :=
      ⟨⟨bO2.ext e3, bm3, ⟨[], World.ownsRow_nil .., MCells.nil _ _⟩, hX2.trans e3⟩, bA2.ext e3, bB2.ext e3, bm3.lt⟩
    have k3 : W3.cell? ⟨g, 3, none⟩ = some (.slice A a.rules.length ca) := (bA2.ext e3).cell 3
    have hwb : w.heap.size ≤ gm + 1 := by omega
    have hwm : w.heap.size ≤ gm := by omega
    have hd1 : g + 1 + 1 ≠ gm := by omega
    have hd2 : g ≠ gm := by omega
    have hd3 : g + 1 ≠ gm := by omega
    clear htp hsy bA2 bB2 bO2 hX2 e3 bm3 HEX cO fO
    go_upto_region 6 with fail
    try rw [← hW3]
    try rw [hgm]
    clear hW3 m0 m1 m2 n0 n1 n2 hgm e1 e2 hws
    go_upto_block 0 with fail
    go_cut [] (fun wx => ∃ v, SeqM w (gm + 1) g gm (g + 1 + 1) a b (.slice A a.rules.length ca) (.slice B b.rules.length cb) a.rules v wx)
    case first =>
      go_wp2_with fail
      clear k3
      go_loopw [50] (fun u wr => ∃ (k : Nat) (v : Value), k ≤ a.rules.length ∧ u = .int .i64 (k : Int) ∧ SeqM w (gm + 1) g gm (g + 1 + 1) a b (.slice A a.rules.length ca) (.slice B b.rules.length cb) (a.rules.take k) v wr) (fun u _ => a.rules.length - (intOf u).toNat)
      case atStart => exact ⟨0, _, Nat.zero_le _, rfl, st0⟩
      case round =>
        clear st0
        obtain ⟨k, v, hk, rfl, st⟩ := hrel
        by_cases hlt : k < a.rules.length
        · obtain ⟨ga, vr, vw, vm, rfl, c0, c1, c2, c3, c4, q1, q2, q3⟩ := OwnMR.at (HA.out.ext st.om.ext) hlt
          have hro := mrule_all (multi_rule HOA.out hlt)
          have hwk : Hid (a.rules.take (k + 1) = a.rules.take k ++ [a.rules[k]]) := Lib.hid (List.take_succ_eq_append_getElem hlt)
          obtain ⟨r, hrk⟩ : ∃ r, a.rules[k] = r := ⟨_, rfl⟩
          rw [hrk] at c0 c4 q1 q2 q3 hro hwk
          obtain ⟨l1, l2, l3⟩ : r.rd.length ≤ 1000 ∧ r.wr.length ≤ 1000 ∧ r.mv.length ≤ 1000 := by
            obtain ⟨_, _, e1, e2, e3, _⟩ := hro
            omega
          obtain ⟨B1, d1, rfl, _, _⟩ := id q1.ints.form
          obtain ⟨B2, d2, rfl, _, _⟩ := id q2.ints.form
          obtain ⟨B3, d3, rfl, _, _⟩ := id q3.ints.form
          obtain ⟨gx, hgx⟩ : ∃ g, wr.heap.size = g := ⟨_, rfl⟩
          obtain ⟨W8, hW8⟩ : ∃ W, W = wr.alloc (.cells #[.int .i64 r.st, .slice B1 r.rd.length d1, .slice B2 r.wr.length d2, .slice B3 r.mv.length d3, .int .i64 r.nx] 70) := ⟨_, rfl⟩
          have e8 : Ext wr W8 := by rw [hW8]; exact Ext.alloc _ _
          have bx8 : Blk W8 gx 70 #[.int .i64 r.st, .slice B1 r.rd.length d1, .slice B2 r.wr.length d2, .slice B3 r.mv.length d3, .int .i64 r.nx] := by rw [hW8]; exact Blk.new _ _ _ _ hgx
          have zD := Ext.drew W8
          have s8 := st.ext (e8.trans zD)
          have zm : W8.drew.cell? ⟨gm, 3, none⟩ = some v := s8.om.cur.cell 3
          have y0 : W8.drew.cell? ⟨gx, 0, none⟩ = some (.int .i64 r.st) := bx8.cell 0
          have y1 : W8.drew.cell? ⟨gx, 1, none⟩ = some (.slice B1 r.rd.length d1) := bx8.cell 1
          have y2 : W8.drew.cell? ⟨gx, 2, none⟩ = some (.slice B2 r.wr.length d2) := bx8.cell 2
          have y3 : W8.drew.cell? ⟨gx, 3, none⟩ = some (.slice B3 r.mv.length d3) := bx8.cell 3
          have y4 : W8.drew.cell? ⟨gx, 4, none⟩ = some (.int .i64 r.nx) := bx8.cell 4
          have CR := copyMultiRule_c base1 _ _ _ r W8.drew (OwnInts.ext q1 (e8.trans zD)) (OwnInts.ext q2 (e8.trans zD)) (OwnInts.ext q3 (e8.trans zD)) l1 l2 l3
          obtain ⟨cl, ho, hcl⟩ := s8.om.own
          have hlk : (a.rules.take k).length = k := by simp; omega
          have HLK := Lib.hid hlk
          rw [hlk] at ho
          obtain ⟨Av, cv, rfl, _, _, _⟩ := (ownsRow_row ho).form
          have hbas := s8.bas
          clear hrk hro hlk q1 q2 q3
          go_wp2_with fail
          try rw [hgx]
          try rw [← hW8]
          clear hW8 hgx c0 c1 c2 c3 c4
          refine wp_region_ordT 5 (readsT [0, 1, 2] (.stir 3 (.stir 4 .done))) (by kernel_rfl) (by kernel_rfl) (fun _ _ _ _ _ h => h) ?_
          simp only [readsT]
          iterate 3 (refine wpOrdT_read (v := ?_) (by rfl) (Or.inl ⟨by rfl, fun x hx => ?_⟩) ?_; rotate_left; (· have a0 := hx.cell zm; have a1 := hx.cell y0; have a2 := hx.cell y1; have a3 := hx.cell y2; have a4 := hx.cell y3; have a5 := hx.cell y4; go_simp; try with_reducible rfl); try simp only [Act.put, List.setIfInBounds_toArray, List.set_cons_zero, List.set_cons_succ])
          refine wpOrdT_stir (by rfl) (fun K hK => ?_)
          go_simp
          go_at_call 43
          refine CR.mono ?_
          rintro e w9 ⟨⟨A1, c1, A2, c2, A3, c3, rfl, hru⟩, hx9⟩
          refine hK _ _ hx9 ?_
          clear hK K CR
          try simp only [Act.put, List.setIfInBounds_toArray, List.set_cons_zero, List.set_cons_succ]
          refine wpOrdT_stir (by rfl) (fun K hK => ?_)
          go_simp
          have eA := Ext.alloc w9 (.cells #[.int .i64 r.st, .slice A1 r.rd.length c1, .slice A2 r.wr.length c2, .slice A3 r.mv.length c3, .int .i64 r.nx] 70)
          refine hK _ _ eA ?_
          clear hK K
          try simp only [Act.put, List.setIfInBounds_toArray, List.set_cons_zero, List.set_cons_succ]
          refine wpOrdT_done ?_
          try simp only [List.drop_succ_cons, List.drop_zero]
          obtain ⟨W6, hW6⟩ : ∃ W6, W6 = w9.alloc (.cells #[.int .i64 r.st, .slice A1 r.rd.length c1, .slice A2 r.wr.length c2, .slice A3 r.mv.length c3, .int .i64 r.nx] 70) := ⟨_, rfl⟩
          rw [← hW6] at eA
          have bN : Blk W6 w9.heap.size 70 (mcell r (.slice A1 r.rd.length c1) (.slice A2 r.wr.length c2) (.slice A3 r.mv.length c3)).toArray := by rw [hW6]; exact Blk.new _ _ _ _ rfl
          have s9 := s8.ext (hx9.trans eA)
          have ho6 := ownsRow_ext ho (hx9.trans eA)
          have hcl6 := hcl.ext (hx9.trans eA)
          have hb6 := s9.bas
          obtain ⟨o1, o2, o3⟩ : OwnInts (gm + 1) W6 (.slice A1 r.rd.length c1) r.rd ∧ OwnInts (gm + 1) W6 (.slice A2 r.wr.length c2) r.wr ∧ OwnInts (gm + 1) W6 (.slice A3 r.mv.length c3) r.mv := by
            obtain ⟨u1, u2, u3, he, p1, p2, p3⟩ := hru
            injection he with he
            simp only [mcell, Array.mk.injEq, List.cons.injEq, and_true] at he
            obtain ⟨_, rfl, rfl, rfl, _⟩ := he
            exact ⟨OwnInts.ext (ownsRow_base p1 hbas) eA, OwnInts.ext (ownsRow_base p2 hbas) eA, OwnInts.ext (ownsRow_base p3 hbas) eA⟩
          have hk60 : k ≤ 60 := by omega
          clear hru hx9 zm y0 y1 y2 y3 y4 zD s8 ho hcl
          go_wp2_with (at_builtin; rw [← hW6]; refine wpList_append_own_at _ rfl _ _ 27 rfl (gm + 1) 70 i0 (.agg #[.int .i64 0, .slice none 0 0, .slice none 0 0, .slice none 0 0, .int .i64 0]) 5 88 Try.underlying27 hi0 hz0 hz1 hz2 rfl (by decide) _ _ cl rfl ho6 ⟨w9.heap.size, 0, none⟩ 1 1 (mcell r (.slice A1 r.rd.length c1) (.slice A2 r.wr.length c2) (.slice A3 r.mv.length c3)) rfl rfl (World.news_of_block bN) ?c2 ?c3 ?c4 ?c5 ?_)
          case c2 => intro u hu; simp [mcell] at hu; rcases hu with rfl | rfl | rfl | rfl | rfl <;> first | rfl | (cases A1 <;> rfl) | (cases A2 <;> rfl) | (cases A3 <;> rfl)
          case c3 => unfold maxLen; omega
          case c4 => omega
          case c5 => first | exact hb6 | (have hb7 := hb6; rw [hW6] at hb7; simp at hb7; omega)
          intro v' w7 hown7 hg7 _ _
          have hg7' : W6.grownBy w7 (Value.slice Av k cv).ownBlock := by first | exact hg7 | (rw [hW6]; exact hg7) | (rw [hW6, hWz]; exact hg7)
          obtain ⟨A7, c7, rfl, _, _, _⟩ := (ownsRow_row hown7).form
          obtain ⟨s7, b7⟩ := s9.push hwb hwm hd1 hd2 hd3 (by rw [HLK.out]; exact ho6) hcl6 o1 o2 o3 (by rw [HLK.out]; exact hown7) hg7'
          rw [← hwk.out] at s7
          have HS7 := Lib.hid s7
          have cB := b7.cell
          have cF := b7.frozen
          clear hW6 eA bN s9 ho6 hcl6 o1 o2 o3 hown7 hg7 hg7' s7 b7 st
          go_wp2_with fail
          go_roundw
          case rel => exact ⟨k + 1, _, by omega, by go_num, HS7.out⟩
          case measure => simp [intOf]; omega
        · obtain rfl : k = a.rules.length := by omega
          rw [List.take_length] at st
          have HS := Lib.hid st
          clear st
          go_wp2_with fail
          go_meet
          exact ⟨v, HS.out⟩
    case rest =>
      rename World => wc
      obtain ⟨v0, stA⟩ := hcut
      clear st0 k3
      have k2 : wc.cell? ⟨g, 2, none⟩ = some (.int .i64 a.st) := stA.ba.cell 2
      obtain ⟨N, hN⟩ : ∃ N : Nat, (N : Int) = a.tp := ⟨a.tp.toNat, by omega⟩
      have HN := Lib.hid hN
      obtain ⟨T, hT⟩ : ∃ T : Nat, (T : Int) = a.st := ⟨a.st.toNat, by omega⟩
      have HT := Lib.hid hT
      clear hN hT
      go_upto_block 2 with fail
      go_cut [] (fun wx => ∃ v, SeqM w (gm + 1) g gm (g + 1 + 1) a b (.slice A a.rules.length ca) (.slice B b.rules.length cb) (a.rules ++ haltRs a) v wx)
      case first =>
        go_wp2_with fail
        clear k2
        go_loopw [64] (fun u wr => ∃ (k : Nat) (v : Value), k ≤ T ∧ u = .int .i64 (k : Int) ∧ SeqM w (gm + 1) g gm (g + 1 + 1) a b (.slice A a.rules.length ca) (.slice B b.rules.length cb) (a.rules ++ (List.range k).flatMap (fun (q : Nat) => (haltReads a q).map (hltR a q))) v wr) (fun u _ => T - (intOf u).toNat)
        case atStart => exact ⟨0, v0, Nat.zero_le _, rfl, by simpa using stA⟩
        case round =>
          clear stA
          obtain ⟨k, v, hk, rfl, st⟩ := hrel
          by_cases hlt : k < T
          · have hki : (k : Int) < a.st := by have := HT.out; omega
            have hT16 : T ≤ 16 := by have := HT.out; omega
            have h0 : wr.cell? ⟨g, 0, none⟩ = some (.int .i64 a.tp) := st.ba.cell 0
            have h1 : wr.cell? ⟨g, 1, none⟩ = some (.int .i64 a.sy) := st.ba.cell 1
            have h2 : wr.cell? ⟨g, 2, none⟩ = some (.int .i64 a.st) := st.ba.cell 2
            have h3 : wr.cell? ⟨g, 3, none⟩ = some (.slice A a.rules.length ca) := st.ba.cell 3
            have HR := haltingReads_c (.agg #[.int .i64 a.tp, .int .i64 a.sy, .int .i64 a.st, .slice A a.rules.length ca]) a (k : Int) wr ⟨_, rfl, HA.out.rules.ext st.om.ext⟩ HOA.out ⟨by omega, by omega⟩
            go_wp2_with fail
            refine HR.mono ?_
            rintro e w4 ⟨⟨Al, cl0, rfl, ll0⟩, hx4⟩
            have st2 : SeqM w (gm + 1) g gm (g + 1 + 1) a b (.slice A a.rules.length ca) (.slice B b.rules.length cb) (a.rules ++ (List.range k).flatMap (fun (q : Nat) => (haltReads a q).map (hltR a q)) ++ ((haltReads a (k : Int)).take 0).map (hltR a (k : Int))) v w4 := by simpa using st.ext hx4
            have ll2 : OwnLL (gm + 1) (gm + 1) w4 (.slice Al (haltReads a (k : Int)).length cl0) (haltReads a (k : Int)) := ll0.low st.bas st.bas
            clear HR ll0 hx4 st h0 h1 h2 h3
            go_wp2_with fail
            go_loopw [71] (fun u wr => ∃ (j : Nat) (v : Value), j ≤ (haltReads a (k : Int)).length ∧ u = .int .i64 (j : Int) ∧ SeqM w (gm + 1) g gm (g + 1 + 1) a b (.slice A a.rules.length ca) (.slice B b.rules.length cb) (a.rules ++ (List.range k).flatMap (fun (q : Nat) => (haltReads a q).map (hltR a q)) ++ ((haltReads a (k : Int)).take j).map (hltR a (k : Int))) v wr ∧ OwnLL (gm + 1) (gm + 1) wr (.slice Al (haltReads a (k : Int)).length cl0) (haltReads a (k : Int))) (fun u _ => (haltReads a (k : Int)).length - (intOf u).toNat)
            case atStart => exact ⟨0, v, Nat.zero_le _, rfl, st2, ll2⟩
            case round =>
              clear st2 ll2
              obtain ⟨j, v, hj, rfl, st, ll⟩ := hrel
              by_cases hjt : j < (haltReads a (k : Int)).length
              · obtain ⟨lc, lr, li⟩ := id ll
                obtain ⟨gx, rfl, _, _⟩ := own_at lr (by omega)
                obtain ⟨ux, hux, oX⟩ := li j hjt
                have hcx : wr.cell? ⟨gx, j, none⟩ = some ux := (World.ownsRow.cellAt lr j (by omega)).trans hux
                have hlen := haltReads_mem HOA.out (List.getElem_mem hjt)
                have hnx : Hid ((a.rules ++ (List.range k).flatMap (fun (q : Nat) => (haltReads a q).map (hltR a q)) ++ ((haltReads a (k : Int)).take j).map (hltR a (k : Int))) ++ [hltR a (k : Int) (haltReads a (k : Int))[j]] = a.rules ++ (List.range k).flatMap (fun (q : Nat) => (haltReads a q).map (hltR a q)) ++ ((haltReads a (k : Int)).take (j + 1)).map (hltR a (k : Int))) := Lib.hid (by
                  rw [List.append_assoc]
                  congr 1
                  rw [List.take_succ_eq_append_getElem hjt, List.map_append]
                  rfl)
                obtain ⟨xs, hxs⟩ : ∃ xs, (haltReads a (k : Int))[j] = xs := ⟨_, rfl⟩
                rw [hxs] at oX hlen hnx
                obtain ⟨Ax, cx, rfl, _, _⟩ := id oX.ints.form
                have hfl := oX.flat
                have HNX := hnx
                have hxl : xs.length = N := by have := HN.out; omega
                have HLX : Hid (xs.length = N) := hxl
                have HTN : Hid (a.tp.toNat = N) := Lib.hid (by have := HN.out; omega)
                obtain ⟨cl, ho, hcl⟩ := st.om.own
                obtain ⟨Av, cv, hve, _, _, _⟩ := (ownsRow_row ho).form
                have hnr : (a.rules ++ (List.range k).flatMap (fun (q : Nat) => (haltReads a q).map (hltR a q)) ++ ((haltReads a (k : Int)).take j).map (hltR a (k : Int))).length ≤ 2000 := by
                  have e1 := haltPart_len a HOA.out k
                  have e2 := haltReads_len a HOA.out (k : Int)
                  rw [List.length_append, List.length_append, List.length_map, List.length_take]
                  omega
                obtain ⟨rs, hrs⟩ : ∃ rs, a.rules ++ (List.range k).flatMap (fun (q : Nat) => (haltReads a q).map (hltR a q)) ++ ((haltReads a (k : Int)).take j).map (hltR a (k : Int)) = rs := ⟨_, rfl⟩
                rw [hrs] at st ho hcl hve hnr HNX
                obtain ⟨nr, hnrl⟩ : ∃ n, rs.length = n := ⟨_, rfl⟩
                have HNR := Lib.hid hnrl
                rw [hnrl] at ho hve hnr
                subst hve
                have CL := fun W (h : Ext wr.drew W) => CloneF_c _ xs W (oX.ints.ext ((Ext.drew wr).trans h)) hfl (by omega)
                have zD := Ext.drew wr
                have zm : wr.drew.cell? ⟨gm, 3, none⟩ = some (.slice Av nr cv) := st.om.cur.cell 3
                have zt : wr.drew.cell? ⟨g, 0, none⟩ = some (.int .i64 a.tp) := st.ba.cell 0
                have zs : wr.drew.cell? ⟨g, 2, none⟩ = some (.int .i64 a.st) := st.ba.cell 2
                have hN3 : N ≤ 3 := by have := HN.out; omega
                rw [hxl] at oX CL hcx
                have hjl : (j : Int) < ((haltReads a (k : Int)).length : Int) := by omega
                clear hxs hnx hlen hrs hnrl hxl hfl lr li hux
                go_upto_block 5 with fail
                go_cut [] (fun wx => ∃ v', SeqM w (gm + 1) g gm (g + 1 + 1) a b (.slice A a.rules.length ca) (.slice B b.rules.length cb) (a.rules ++ (List.range k).flatMap (fun (q : Nat) => (haltReads a q).map (hltR a q)) ++ ((haltReads a (k : Int)).take (j + 1)).map (hltR a (k : Int))) v' wx ∧ OwnLL (gm + 1) (gm + 1) wx (.slice (some ⟨gx, 0, none⟩) (haltReads a (k : Int)).length cl0) (haltReads a (k : Int)))
                case first =>
                  go_wp2_with fail
                  clear hcx
                  refine wp_region_ordT 13 (readsT [0, 1, 2, 3, 4, 6, 7, 9, 10] (.fork 5 (.stir 8 (readsT [11] (.stir 12 .done))) 8 (.stir 5 (readsT [11] (.stir 12 .done))))) (by kernel_rfl) (by kernel_rfl) (fun _ _ _ _ _ h => h) ?_
                  simp only [readsT]
                  iterate 9 (refine wpOrdT_read (v := ?_) (by rfl) (Or.inl ⟨by rfl, fun x hx => ?_⟩) ?_; rotate_left; (· have a0 := hx.cell zm; have a1 := hx.cell zt; have a2 := hx.cell zs; go_simp; try with_reducible rfl); try simp only [Act.put, List.setIfInBounds_toArray, List.set_cons_zero, List.set_cons_succ])
                  refine wpOrdT_fork (by rfl) (by rfl) (fun K hK => ?_) (fun K hK => ?_)
                  · go_simp
                    go_at_call 28
                    refine (CL wr.drew (Ext.refl _)).mono ?_
                    rintro e w3 ⟨u, rfl, oC, _, hxC⟩
                    obtain ⟨A4, c4, rfl, _, _⟩ := id oC.ints.form
                    rw [HLX.out] at *
                    refine hK _ _ hxC ?_
                    clear hK K
                    try simp only [Act.put, List.setIfInBounds_toArray, List.set_cons_zero, List.set_cons_succ]
                    refine wpOrdT_stir (by rfl) (fun K hK => ?_)
                    obtain ⟨wm, hmk, hom, hgm'⟩ := run_make_full (P := Try.prog) w3 (gm + 1) 24 2 j0 (.int .i64 0) 1 Try.underlying24 hj0 hjz0 hjz1 .i64 .i64 N (by rw [hjz2]; omega) (by unfold maxLen; omega) (by have := st.bas; have : wr.drew.heap.size = wr.heap.size := rfl; have := hxC.size; omega)
                    rw [HN.out] at hmk
                    have hxM : Ext w3 wm := (Ext.refl _).grown hgm' (by simp)
                    go_simp
                    refine hK _ _ hxM ?_
                    clear hK K hmk
                    try simp only [Act.put, List.setIfInBounds_toArray, List.set_cons_zero, List.set_cons_succ]
                    try simp only [Act.put, List.setIfInBounds_toArray, List.set_cons_zero, List.set_cons_succ]
                    refine wpOrdT_read (v := ?_) (by rfl) (Or.inl ⟨by rfl, fun x hx => ?_⟩) ?_
                    rotate_left
                    · go_simp; try with_reducible rfl
                    try simp only [Act.put, List.setIfInBounds_toArray, List.set_cons_zero, List.set_cons_succ]
                    obtain ⟨gk, hgk⟩ : ∃ g, w3.heap.size = g := ⟨_, rfl⟩
                    try rw [hgk]
                    rw [hgk] at hom
                    have hXX : Ext wr wm := (zD.trans hxC).trans hxM
                    have oCC : OwnInts (gm + 1) wm (.slice A4 N c4) xs := OwnInts.ext (ownsRow_base oC (by have := st.bas; exact this)) hxM
                    have oZ : OwnInts (gm + 1) wm (.slice (some ⟨gk, 0, none⟩) N N) (List.replicate N 0) := zeros_own hom
                    replace oC := oCC
                    clear oCC
                    have eA := Ext.alloc wm (.cells #[.int .i64 (k : Int), .slice Ax N cx, .slice A4 N c4, .slice (some ⟨gk, 0, none⟩) N N, .int .i64 a.st] 70)
                    refine wpOrdT_stir (by rfl) (fun K hK => ?_)
                    go_simp
                    refine hK _ _ eA ?_
                    clear hK K
                    try simp only [Act.put, List.setIfInBounds_toArray, List.set_cons_zero, List.set_cons_succ]
                    refine wpOrdT_done ?_
                    try simp only [List.drop_succ_cons, List.drop_zero]
                    obtain ⟨W6, hW6⟩ : ∃ W6, W6 = wm.alloc (.cells #[.int .i64 (k : Int), .slice Ax N cx, .slice A4 N c4, .slice (some ⟨gk, 0, none⟩) N N, .int .i64 a.st] 70) := ⟨_, rfl⟩
                    rw [← hW6] at eA
                    have bN : Blk W6 wm.heap.size 70 (mcell (hltR a (k : Int) xs) (.slice Ax N cx) (.slice A4 N c4) (.slice (some ⟨gk, 0, none⟩) N N)).toArray := by rw [hW6]; exact Blk.new _ _ _ _ rfl
                    have hX9 : Ext wr W6 := hXX.trans eA
                    have s9 := st.ext hX9
                    have ll9 := ll.ext hX9
                    have ho6 := ownsRow_ext ho hX9
                    have hcl6 := hcl.ext hX9
                    have hb6 := s9.bas
                    have p1 : OwnInts (gm + 1) W6 (.slice Ax N cx) xs := OwnInts.ext oX hX9
                    have p2 : OwnInts (gm + 1) W6 (.slice A4 N c4) xs := OwnInts.ext oC eA
                    have p3 : OwnInts (gm + 1) W6 (.slice (some ⟨gk, 0, none⟩) N N) (List.replicate N 0) := OwnInts.ext oZ eA
                    clear zm zt zs zD ho hcl hXX
                    go_wp2_with (at_builtin; rw [← hW6]; refine wpList_append_own_at _ rfl _ _ 27 rfl (gm + 1) 70 i0 (.agg #[.int .i64 0, .slice none 0 0, .slice none 0 0, .slice none 0 0, .int .i64 0]) 5 88 Try.underlying27 hi0 hz0 hz1 hz2 rfl (by decide) _ _ cl rfl ho6 ⟨wm.heap.size, 0, none⟩ 1 1 (mcell (hltR a (k : Int) xs) (.slice Ax N cx) (.slice A4 N c4) (.slice (some ⟨gk, 0, none⟩) N N)) rfl rfl (World.news_of_block bN) ?c2 ?c3 ?c4 ?c5 ?_)
                    case c2 => intro u hu; simp [mcell, hltR] at hu; rcases hu with rfl | rfl | rfl | rfl | rfl <;> first | rfl | (cases Ax <;> rfl) | (cases A4 <;> rfl)
                    case c3 => unfold maxLen; omega
                    case c4 => omega
                    case c5 => first | exact hb6 | (have hb7 := hb6; rw [hW6] at hb7; simp at hb7; omega)
                    intro v' w7 hown7 hg7 _ _
                    have hg7' : W6.grownBy w7 (Value.slice Av nr cv).ownBlock := by first | exact hg7 | (rw [hW6]; exact hg7) | (rw [hW6, hWz]; exact hg7)
                    obtain ⟨A7, c7, rfl, _, _, _⟩ := (ownsRow_row hown7).form
                    obtain ⟨s7, b7⟩ := s9.push (r := hltR a (k : Int) xs) hwb hwm hd1 hd2 hd3 (by rw [HNR.out]; exact ho6) hcl6 p1 p2 (by show OwnInts _ _ _ (List.replicate a.tp.toNat 0); rw [HTN.out]; exact p3) (by rw [HNR.out]; exact hown7) hg7'
                    rw [HNX.out] at s7
                    have ll7 := (ll9.grown ho6 hg7').far b7 (by decide) (by decide) 3 (.slice A7 (nr + 1) c7)
                    have HS7 := Lib.hid s7
                    have HL7 := Lib.hid ll7
                    have cB := b7.cell
                    have cF := b7.frozen
                    clear hW6 eA bN s9 ll9 ho6 hcl6 hown7 hg7 hg7' s7 b7 st ll ll7 p1 p2 p3 hom hgm' hxM hxC oC oZ oX
                    go_wp2_with fail
                    go_meet
                    exact ⟨_, HS7.out, HL7.out⟩
                  · obtain ⟨wm, hmk, hom, hgm'⟩ := run_make_full (P := Try.prog) wr.drew (gm + 1) 24 2 j0 (.int .i64 0) 1 Try.underlying24 hj0 hjz0 hjz1 .i64 .i64 N (by rw [hjz2]; omega) (by unfold maxLen; omega) (by have := st.bas; exact this)
                    rw [HN.out] at hmk
                    have hxM : Ext wr.drew wm := (Ext.refl _).grown hgm' (by simp)
                    go_simp
                    refine hK _ _ hxM ?_
                    clear hK K hmk
                    try simp only [Act.put, List.setIfInBounds_toArray, List.set_cons_zero, List.set_cons_succ]
                    refine wpOrdT_stir (by rfl) (fun K hK => ?_)
                    go_simp
                    go_at_call 28
                    refine (CL wm hxM).mono ?_
                    rintro e w3 ⟨u, rfl, oC, _, hxC⟩
                    obtain ⟨A4, c4, rfl, _, _⟩ := id oC.ints.form
                    rw [HLX.out] at *
                    refine hK _ _ hxC ?_
                    clear hK K
                    try simp only [Act.put, List.setIfInBounds_toArray, List.set_cons_zero, List.set_cons_succ]
                    refine wpOrdT_read (v := ?_) (by rfl) (Or.inl ⟨by rfl, fun x hx => ?_⟩) ?_
                    rotate_left
                    · go_simp; try with_reducible rfl
                    try simp only [Act.put, List.setIfInBounds_toArray, List.set_cons_zero, List.set_cons_succ]
                    obtain ⟨gk, hgk⟩ : ∃ g, wr.heap.size = g := ⟨_, rfl⟩
                    have hgk' : wr.drew.heap.size = gk := hgk
                    try rw [hgk']
                    try rw [hgk]
                    rw [hgk'] at hom
                    have hXX : Ext wr w3 := (zD.trans hxM).trans hxC
                    have oCC : OwnInts (gm + 1) w3 (.slice A4 N c4) xs := ownsRow_base oC (by have := st.bas; have : wr.drew.heap.size = wr.heap.size := rfl; have := hxM.size; omega)
                    have oZ : OwnInts (gm + 1) w3 (.slice (some ⟨gk, 0, none⟩) N N) (List.replicate N 0) := OwnInts.ext (zeros_own hom) hxC
                    replace oC := oCC
                    clear oCC
                    have eA := Ext.alloc w3 (.cells #[.int .i64 (k : Int), .slice Ax N cx, .slice A4 N c4, .slice (some ⟨gk, 0, none⟩) N N, .int .i64 a.st] 70)
                    refine wpOrdT_stir (by rfl) (fun K hK => ?_)
                    go_simp
                    refine hK _ _ eA ?_
                    clear hK K
                    try simp only [Act.put, List.setIfInBounds_toArray, List.set_cons_zero, List.set_cons_succ]
                    refine wpOrdT_done ?_
                    try simp only [List.drop_succ_cons, List.drop_zero]
                    obtain ⟨W6, hW6⟩ : ∃ W6, W6 = w3.alloc (.cells #[.int .i64 (k : Int), .slice Ax N cx, .slice A4 N c4, .slice (some ⟨gk, 0, none⟩) N N, .int .i64 a.st] 70) := ⟨_, rfl⟩
                    rw [← hW6] at eA
                    have bN : Blk W6 w3.heap.size 70 (mcell (hltR a (k : Int) xs) (.slice Ax N cx) (.slice A4 N c4) (.slice (some ⟨gk, 0, none⟩) N N)).toArray := by rw [hW6]; exact Blk.new _ _ _ _ rfl
                    have hX9 : Ext wr W6 := hXX.trans eA
                    have s9 := st.ext hX9
                    have ll9 := ll.ext hX9
                    have ho6 := ownsRow_ext ho hX9
                    have hcl6 := hcl.ext hX9
                    have hb6 := s9.bas
                    have p1 : OwnInts (gm + 1) W6 (.slice Ax N cx) xs := OwnInts.ext oX hX9
                    have p2 : OwnInts (gm + 1) W6 (.slice A4 N c4) xs := OwnInts.ext oC eA
                    have p3 : OwnInts (gm + 1) W6 (.slice (some ⟨gk, 0, none⟩) N N) (List.replicate N 0) := OwnInts.ext oZ eA
                    clear zm zt zs zD ho hcl hXX
                    go_wp2_with (at_builtin; rw [← hW6]; refine wpList_append_own_at _ rfl _ _ 27 rfl (gm + 1) 70 i0 (.agg #[.int .i64 0, .slice none 0 0, .slice none 0 0, .slice none 0 0, .int .i64 0]) 5 88 Try.underlying27 hi0 hz0 hz1 hz2 rfl (by decide) _ _ cl rfl ho6 ⟨w3.heap.size, 0, none⟩ 1 1 (mcell (hltR a (k : Int) xs) (.slice Ax N cx) (.slice A4 N c4) (.slice (some ⟨gk, 0, none⟩) N N)) rfl rfl (World.news_of_block bN) ?c2 ?c3 ?c4 ?c5 ?_)
                    case c2 => intro u hu; simp [mcell, hltR] at hu; rcases hu with rfl | rfl | rfl | rfl | rfl <;> first | rfl | (cases Ax <;> rfl) | (cases A4 <;> rfl)
                    case c3 => unfold maxLen; omega
                    case c4 => omega
                    case c5 => first | exact hb6 | (have hb7 := hb6; rw [hW6] at hb7; simp at hb7; omega)
                    intro v' w7 hown7 hg7 _ _
                    have hg7' : W6.grownBy w7 (Value.slice Av nr cv).ownBlock := by first | exact hg7 | (rw [hW6]; exact hg7) | (rw [hW6, hWz]; exact hg7)
                    obtain ⟨A7, c7, rfl, _, _, _⟩ := (ownsRow_row hown7).form
                    obtain ⟨s7, b7⟩ := s9.push (r := hltR a (k : Int) xs) hwb hwm hd1 hd2 hd3 (by rw [HNR.out]; exact ho6) hcl6 p1 p2 (by show OwnInts _ _ _ (List.replicate a.tp.toNat 0); rw [HTN.out]; exact p3) (by rw [HNR.out]; exact hown7) hg7'
                    rw [HNX.out] at s7
                    have ll7 := (ll9.grown ho6 hg7').far b7 (by decide) (by decide) 3 (.slice A7 (nr + 1) c7)
                    have HS7 := Lib.hid s7
                    have HL7 := Lib.hid ll7
                    have cB := b7.cell
                    have cF := b7.frozen
                    clear hW6 eA bN s9 ll9 ho6 hcl6 hown7 hg7 hg7' s7 b7 st ll ll7 p1 p2 p3 hom hgm' hxM hxC oC oZ oX
                    go_wp2_with fail
                    go_meet
                    exact ⟨_, HS7.out, HL7.out⟩
                case rest =>
                  rename World => wy
                  obtain ⟨v', sN, lN⟩ := hcut
                  have hj27 : j ≤ 27 := by have := haltReads_len a HOA.out (k : Int); omega
                  have hjw : IntKind.i64.wrap ((j : Int) + 1) = (j : Int) + 1 := IntWalk.i64_in _ (by omega)
                  have HSN := Lib.hid sN
                  have HLN := Lib.hid lN
                  clear sN lN st ll
                  go_wp2_with fail
                  go_roundw
                  case rel => exact ⟨j + 1, v', by omega, by go_num, HSN.out, HLN.out⟩
                  case measure => simp [intOf]; omega
              · obtain rfl : j = (haltReads a (k : Int)).length := by omega
                rw [List.take_length] at st
                have HS := Lib.hid st
                clear st ll
                go_wp2_with fail
                go_roundw
                case rel => exact ⟨k + 1, v, by omega, by go_num, by rw [haltRs_succ, ← List.append_assoc]; exact HS.out⟩
                case measure => simp [intOf]; omega
          · obtain rfl : k = T := by omega
            have hki : ¬ (k : Int) < a.st := by have := HT.out; omega
            have HS := Lib.hid st
            have HTT : Hid (a.st.toNat = k) := Lib.hid (by have := HT.out; omega)
            clear st
            go_wp2_with fail
            go_meet
            exact ⟨v, by unfold haltRs; rw [HTT.out]; exact HS.out⟩
      case rest =>
        rename World => wd
        obtain ⟨v1, stB⟩ := hcut
        clear stA k2
        have k3 : wd.cell? ⟨g + 1, 3, none⟩ = some (.slice B b.rules.length cb) := stB.bb.cell 3
        have hpl : (a.rules ++ haltRs a).length ≤ 60 + 27 * 16 := by
          have e1 := haltPart_len a HOA.out a.st.toNat
          rw [List.length_append]
          unfold haltRs
          omega
        have HPL := Lib.hid hpl
        clear hpl
        go_upto_block 6 with fail
        go_cut [] (fun wx => ∃ v, SeqM w (gm + 1) g gm (g + 1 + 1) a b (.slice A a.rules.length ca) (.slice B b.rules.length cb) (preL a b) v wx)
        case first =>
          go_wp2_with fail
          clear k3
          go_loopw [95] (fun u wr => ∃ (k : Nat) (v : Value), k ≤ b.rules.length ∧ u = .int .i64 (k : Int) ∧ SeqM w (gm + 1) g gm (g + 1 + 1) a b (.slice A a.rules.length ca) (.slice B b.rules.length cb) (a.rules ++ haltRs a ++ (b.rules.take k).map (mvR a.st)) v wr) (fun u _ => b.rules.length - (intOf u).toNat)
          case atStart => exact ⟨0, v1, Nat.zero_le _, rfl, by simpa using stB⟩
          case round =>
            clear stB
            obtain ⟨k, v, hk, rfl, st⟩ := hrel
            by_cases hlt : k < b.rules.length
            · obtain ⟨ga, vr, vw, vm, rfl, c0, c1, c2, c3, c4, q1, q2, q3⟩ := OwnMR.at (HB.out.ext st.om.ext) hlt
              have hro := mrule_all (multi_rule HOB.out hlt)
              have hwk : Hid ((a.rules ++ haltRs a ++ (b.rules.take k).map (mvR a.st)) ++ [mvR a.st b.rules[k]] = a.rules ++ haltRs a ++ (b.rules.take (k + 1)).map (mvR a.st)) := Lib.hid (by rw [List.take_succ_eq_append_getElem hlt, List.map_append, List.append_assoc]; rfl)
              obtain ⟨r, hrk⟩ : ∃ r, b.rules[k] = r := ⟨_, rfl⟩
              rw [hrk] at c0 c4 q1 q2 q3 hro hwk
              obtain ⟨l1, l2, l3⟩ : r.rd.length ≤ 1000 ∧ r.wr.length ≤ 1000 ∧ r.mv.length ≤ 1000 := by
                obtain ⟨_, _, e1, e2, e3, _⟩ := hro
                have := HTP.out
                omega
              have hst : 0 ≤ r.st ∧ r.st ≤ 16 ∧ 0 ≤ r.nx ∧ r.nx ≤ 16 := by
                obtain ⟨e1, e2, _⟩ := hro
                omega
              obtain ⟨B1, d1, rfl, _, _⟩ := id q1.ints.form
              obtain ⟨B2, d2, rfl, _, _⟩ := id q2.ints.form
              obtain ⟨B3, d3, rfl, _, _⟩ := id q3.ints.form
              obtain ⟨gx, hgx⟩ : ∃ g, wr.heap.size = g := ⟨_, rfl⟩
              obtain ⟨W8, hW8⟩ : ∃ W, W = wr.alloc (.cells #[.int .i64 r.st, .slice B1 r.rd.length d1, .slice B2 r.wr.length d2, .slice B3 r.mv.length d3, .int .i64 r.nx] 70) := ⟨_, rfl⟩
              have e8 : Ext wr W8 := by rw [hW8]; exact Ext.alloc _ _
              have bx8 : Blk W8 gx 70 #[.int .i64 r.st, .slice B1 r.rd.length d1, .slice B2 r.wr.length d2, .slice B3 r.mv.length d3, .int .i64 r.nx] := by rw [hW8]; exact Blk.new _ _ _ _ hgx
              have CR := copyMultiRule_c base2 _ _ _ r W8 (OwnInts.ext q1 e8) (OwnInts.ext q2 e8) (OwnInts.ext q3 e8) l1 l2 l3
              have hbas := (st.ext e8).bas
              clear hrk hro q1 q2 q3
              go_wp2_with fail
              try rw [hgx]
              try rw [← hW8]
              clear hW8 hgx c0 c1 c2 c3 c4
              refine CR.mono ?_
              rintro e w9 ⟨⟨A1, c1, A2, c2, A3, c3, rfl, hru⟩, hx9⟩
              clear CR
              obtain ⟨gy, hgy⟩ : ∃ g, w9.heap.size = g := ⟨_, rfl⟩
              obtain ⟨Wy, hWy⟩ : ∃ W, W = w9.alloc (.cells #[.int .i64 r.st, .slice A1 r.rd.length c1, .slice A2 r.wr.length c2, .slice A3 r.mv.length c3, .int .i64 r.nx] 70) := ⟨_, rfl⟩
              have ey : Ext w9 Wy := by rw [hWy]; exact Ext.alloc _ _
              have byy : Blk Wy gy 70 #[.int .i64 r.st, .slice A1 r.rd.length c1, .slice A2 r.wr.length c2, .slice A3 r.mv.length c3, .int .i64 r.nx] := by rw [hWy]; exact Blk.new _ _ _ _ hgy
              go_upto_region 24 with fail
              try rw [hgy]
              try rw [← hWy]
              have hgyr : wr.heap.size ≤ gy := by rw [← hgy]; exact (e8.trans hx9).size
              clear hWy hgy
              have sy := st.ext ((e8.trans hx9).trans ey)
              have y0 : Wy.cell? ⟨gy, 0, none⟩ = some (.int .i64 r.st) := byy.cell 0
              have y1 : Wy.cell? ⟨gy, 1, none⟩ = some (.slice A1 r.rd.length c1) := byy.cell 1
              have y2 : Wy.cell? ⟨gy, 2, none⟩ = some (.slice A2 r.wr.length c2) := byy.cell 2
              have y3 : Wy.cell? ⟨gy, 3, none⟩ = some (.slice A3 r.mv.length c3) := byy.cell 3
              have y4 : Wy.cell? ⟨gy, 4, none⟩ = some (.int .i64 r.nx) := byy.cell 4
              have fy := byy.frozen
              have za : Wy.cell? ⟨g, 2, none⟩ = some (.int .i64 a.st) := sy.ba.cell 2
              have zm : Wy.cell? ⟨gm, 3, none⟩ = some v := sy.om.cur.cell 3
              have ng : g ≠ gy := by have := sy.ba.lt; have := st.ba.lt; omega
              have nm : gm ≠ gy := by have := st.om.cur.lt; omega
              have hw1 : IntKind.i64.wrap (r.st + a.st) = r.st + a.st := IntWalk.i64_in _ (by omega)
              have hw2 : IntKind.i64.wrap (r.nx + a.st) = r.nx + a.st := IntWalk.i64_in _ (by omega)
              obtain ⟨Wz, hWz⟩ : ∃ W, W = (Wy.setCell ⟨gy, 0, none⟩ (.int .i64 (r.st + a.st))).setCell ⟨gy, 4, none⟩ (.int .i64 (r.nx + a.st)) := ⟨_, rfl⟩
              have hEz : Ext wr Wz := by
                rw [hWz]
                exact (((e8.trans hx9).trans ey).setCell (p := ⟨gy, 0, none⟩) hgyr _).setCell (p := ⟨gy, 4, none⟩) hgyr _
              have oz : ∀ {z : Value} {zs : List Int}, OwnInts W8.heap.size w9 z zs → OwnInts (gm + 1) Wz z zs := fun {z zs} o => by
                have o1 : OwnInts (gm + 1) Wy z zs := OwnInts.ext (ownsRow_base o hbas) ey
                rw [hWz]
                have hq : ∀ q, z.ownBlock = some q → q ≠ gy := fun q hq e => by
                  subst e
                  exact blk_ne_row byy o1 (by decide) hq.symm
                exact ownsRow_far (ownsRow_far o1 hq _) hq _
              obtain ⟨p1, p2, p3⟩ : OwnInts (gm + 1) Wz (.slice A1 r.rd.length c1) r.rd ∧ OwnInts (gm + 1) Wz (.slice A2 r.wr.length c2) r.wr ∧ OwnInts (gm + 1) Wz (.slice A3 r.mv.length c3) r.mv := by
                obtain ⟨u1, u2, u3, he, p1, p2, p3⟩ := hru
                injection he with he
                simp only [mcell, Array.mk.injEq, List.cons.injEq, and_true] at he
                obtain ⟨_, rfl, rfl, rfl, _⟩ := he
                exact ⟨oz p1, oz p2, oz p3⟩
              obtain ⟨W6, hW6⟩ : ∃ W6, W6 = Wz.alloc (.cells #[.int .i64 (r.st + a.st), .slice A1 r.rd.length c1, .slice A2 r.wr.length c2, .slice A3 r.mv.length c3, .int .i64 (r.nx + a.st)] 70) := ⟨_, rfl⟩
              have eA : Ext Wz W6 := by rw [hW6]; exact Ext.alloc _ _
              have bN : Blk W6 Wz.heap.size 70 (mcell (mvR a.st r) (.slice A1 r.rd.length c1) (.slice A2 r.wr.length c2) (.slice A3 r.mv.length c3)).toArray := by rw [hW6]; exact Blk.new _ _ _ _ rfl
              have s9 := st.ext (hEz.trans eA)
              obtain ⟨cl, ho, hcl⟩ := s9.om.own
              obtain ⟨Av, cv, hve, _, _, _⟩ := (ownsRow_row ho).form
              have hnr : (a.rules ++ haltRs a ++ (b.rules.take k).map (mvR a.st)).length ≤ 2000 := by
                have := HPL.out
                rw [List.length_append, List.length_map, List.length_take]
                omega
              obtain ⟨rs, hrs⟩ : ∃ rs, a.rules ++ haltRs a ++ (b.rules.take k).map (mvR a.st) = rs := ⟨_, rfl⟩
              rw [hrs] at s9 ho hcl hve hnr hwk
              obtain ⟨nr, hnrl⟩ : ∃ n, rs.length = n := ⟨_, rfl⟩
              have HNR := Lib.hid hnrl
              rw [hnrl] at ho hve hnr
              subst hve
              have hb6 := s9.bas
              have q1 := OwnInts.ext p1 eA
              have q2 := OwnInts.ext p2 eA
              have q3 := OwnInts.ext p3 eA
              have HWK := hwk
              have hszz : Wz.heap.size = Wy.heap.size := by rw [hWz]; simp
              clear hru hx9 ey byy sy oz p1 p2 p3 hEz st hrs hnrl hwk e8 bx8 hbas
              go_wp2_with (at_builtin; rw [← hWz, ← hW6]; refine wpList_append_own_at _ rfl _ _ 27 rfl (gm + 1) 70 i0 (.agg #[.int .i64 0, .slice none 0 0, .slice none 0 0, .slice none 0 0, .int .i64 0]) 5 88 Try.underlying27 hi0 hz0 hz1 hz2 rfl (by decide) _ _ cl rfl ho ⟨Wy.heap.size, 0, none⟩ 1 1 (mcell (mvR a.st r) (.slice A1 r.rd.length c1) (.slice A2 r.wr.length c2) (.slice A3 r.mv.length c3)) rfl rfl (by rw [← hszz]; exact World.news_of_block bN) ?c2 ?c3 ?c4 ?c5 ?_)
              case c2 => intro u hu; simp [mcell, mvR] at hu; rcases hu with rfl | rfl | rfl | rfl | rfl <;> first | rfl | (cases A1 <;> rfl) | (cases A2 <;> rfl) | (cases A3 <;> rfl)
              case c3 => unfold maxLen; omega
              case c4 => omega
              case c5 => first | exact hb6 | (have hb7 := hb6; rw [hW6] at hb7; simp at hb7; omega)
              intro v' w7 hown7 hg7 _ _
              have hg7' : W6.grownBy w7 (Value.slice Av nr cv).ownBlock := by first | exact hg7 | (rw [hW6]; exact hg7) | (rw [hW6, hWz]; exact hg7)
              obtain ⟨A7, c7, rfl, _, _, _⟩ := (ownsRow_row hown7).form
              obtain ⟨s7, b7⟩ := s9.push (r := mvR a.st r) hwb hwm hd1 hd2 hd3 (by rw [HNR.out]; exact ho) hcl q1 q2 q3 (by rw [HNR.out]; exact hown7) hg7'
              rw [HWK.out] at s7
              have HS7 := Lib.hid s7
              have cB := b7.cell
              have cF := b7.frozen
              clear hW6 hWz eA bN s9 ho hcl hown7 hg7 hg7' s7 b7 q1 q2 q3 y0 y1 y2 y3 y4 fy za zm
              go_wp2_with fail
              go_roundw
              case rel => exact ⟨k + 1, _, by omega, by go_num, HS7.out⟩
              case measure => simp [intOf]; omega
            · obtain rfl : k = b.rules.length := by omega
              rw [List.take_length] at st
              have HS := Lib.hid st
              clear st
              go_wp2_with fail
              go_meet
              exact ⟨v, HS.out⟩
        case rest =>
          rename World => we
          obtain ⟨v2, stC⟩ := hcut
          clear stB k3
          have hpl2 : (preL a b).length ≤ 2000 := by
            have := HPL.out
            unfold preL
            rw [List.length_append, List.length_map]
            omega
          obtain ⟨Av, cv, rfl, _, _⟩ := stC.om.own.form
          have SR := sortRulesN_c (gm + 1) we gm a.tp a.sy (a.st + b.st) _ (preL a b) stC.om.cur stC.om.own (preL_pos HOA.out) (by omega)
          obtain ⟨cl, ho, _⟩ := id stC.om.own
          go_wp2_with fail
          refine SR.mono ?_
          rintro e w6 ⟨rfl, ⟨rs', hperm, hsort, hkeep⟩, hg6⟩
          have bm6 := Blk.apart stC.om.cur ho (by decide) hg6
          have bo6 := Blk.apart stC.om.out ho (by decide) hg6
          have hx6 : Ext w w6 := stC.om.ext.grown hg6 (fun p hp => by have := (ho.lt p hp).1; omega)
          have hlp := hperm.length_eq
          have z0 : w6.cell? ⟨gm, 0, none⟩ = some (.int .i64 a.tp) := bm6.cell 0
          have z1 : w6.cell? ⟨gm, 1, none⟩ = some (.int .i64 a.sy) := bm6.cell 1
          have z2 : w6.cell? ⟨gm, 2, none⟩ = some (.int .i64 (a.st + b.st)) := bm6.cell 2
          have z3 : w6.cell? ⟨gm, 3, none⟩ = some (.slice Av (preL a b).length cv) := bm6.cell 3
          have VM := ValidMulti_c (.agg #[.int .i64 a.tp, .int .i64 a.sy, .int .i64 (a.st + b.st), .slice Av (preL a b).length cv]) ⟨a.tp, a.sy, a.st + b.st, rs'⟩ w6 ⟨_, rfl, hkeep _ (KeepB.refl _ _)⟩
          have HKP := Lib.hid hkeep
          have HPM := Lib.hid hperm
          have HSO := Lib.hid hsort
          clear SR stC ho hg6 hkeep hperm hsort hlp
          cases hok : multiOk ⟨a.tp, a.sy, a.st + b.st, rs'⟩ with
          | false =>
            rw [hok] at VM
            have HBAD : Hid (16 < a.st + b.st ∨ 60 < (preL a b).length) := Lib.hid (seq_bad (s := ⟨a.tp, a.sy, a.st + b.st, rs'⟩) HOA.out HOB.out HTP.out HSY.out rfl rfl rfl HPM.out (fun i j hij hj => HSO.out i j hij hj) hok)
            clear hok bm6
            generalize hnl : (preL a b).length = nl at *
            have HNL := Lib.hid hnl
            clear hnl
            go_wp2_with fail
            refine VM.mono ?_
            rintro e w7 ⟨rfl, hx7⟩
            have bo7 := bo6.ext hx7
            have cO := bo7.cell
            have fO := bo7.frozen
            have HEX : Hid (∀ u0 u1 u2 u3, Ext w ((((w7.setCell ⟨g + 1 + 1, 0, none⟩ u0).setCell ⟨g + 1 + 1, 1, none⟩ u1).setCell ⟨g + 1 + 1, 2, none⟩ u2).setCell ⟨g + 1 + 1, 3, none⟩ u3)) := Lib.hid fun u0 u1 u2 u3 =>
              ((((hx6.trans hx7).setCell (p := ⟨g + 1 + 1, 0, none⟩) hgw u0).setCell (p := ⟨g + 1 + 1, 1, none⟩) hgw u1).setCell (p := ⟨g + 1 + 1, 2, none⟩) hgw u2).setCell (p := ⟨g + 1 + 1, 3, none⟩) hgw u3
            clear VM bo6 bo7 hx6 hx7 z0 z1 z2 z3
            go_wp2_with fail
            exact bodyPost_ret (v := .tuple #[.agg #[.int .i64 0, .int .i64 0, .int .i64 0, .slice none 0 0], .int .i64 5]) (by simp [results, Try.results15, go_sem, cO]) rfl ⟨.inr (.inl ⟨HTP.out, HSY.out, by rw [HNL.out]; exact HBAD.out, rfl⟩), HEX.out _ _ _ _⟩
          | true =>
            rw [hok] at VM
            have HOK : Hid (multiOk ⟨a.tp, a.sy, a.st + b.st, rs'⟩ = true) := hok
            clear hok
            go_wp2_with fail
            refine VM.mono ?_
            rintro e w7 ⟨rfl, hx7⟩
            have bo7 := bo6.ext hx7
            have bm7 := bm6.ext hx7
            have cO := bo7.cell
            have fO := bo7.frozen
            have y0 : w7.cell? ⟨gm, 0, none⟩ = some (.int .i64 a.tp) := bm7.cell 0
            have y1 : w7.cell? ⟨gm, 1, none⟩ = some (.int .i64 a.sy) := bm7.cell 1
            have y2 : w7.cell? ⟨gm, 2, none⟩ = some (.int .i64 (a.st + b.st)) := bm7.cell 2
            have y3 : w7.cell? ⟨gm, 3, none⟩ = some (.slice Av (preL a b).length cv) := bm7.cell 3
            have HEX : Hid (∀ u0 u1 u2 u3, Ext w ((((w7.setCell ⟨g + 1 + 1, 0, none⟩ u0).setCell ⟨g + 1 + 1, 1, none⟩ u1).setCell ⟨g + 1 + 1, 2, none⟩ u2).setCell ⟨g + 1 + 1, 3, none⟩ u3)) := Lib.hid fun u0 u1 u2 u3 =>
              ((((hx6.trans hx7).setCell (p := ⟨g + 1 + 1, 0, none⟩) hgw u0).setCell (p := ⟨g + 1 + 1, 1, none⟩) hgw u1).setCell (p := ⟨g + 1 + 1, 2, none⟩) hgw u2).setCell (p := ⟨g + 1 + 1, 3, none⟩) hgw u3
            have HMR : Hid (∀ u0 u1 u2 u3, MRules ((((w7.setCell ⟨g + 1 + 1, 0, none⟩ u0).setCell ⟨g + 1 + 1, 1, none⟩ u1).setCell ⟨g + 1 + 1, 2, none⟩ u2).setCell ⟨g + 1 + 1, 3, none⟩ u3) (.slice Av (preL a b).length cv) rs') := Lib.hid fun u0 u1 u2 u3 =>
              HKP.out _ ((KeepB.of_ext hx7).trans ((KeepB.setCell w7 (p := ⟨g + 1 + 1, 0, none⟩) (by show g + 1 + 1 < gm + 1; omega) u0).trans ((KeepB.setCell _ (p := ⟨g + 1 + 1, 1, none⟩) (by show g + 1 + 1 < gm + 1; omega) u1).trans ((KeepB.setCell _ (p := ⟨g + 1 + 1, 2, none⟩) (by show g + 1 + 1 < gm + 1; omega) u2).trans (KeepB.setCell _ (p := ⟨g + 1 + 1, 3, none⟩) (by show g + 1 + 1 < gm + 1; omega) u3)))))
            clear VM bo6 bo7 bm6 bm7 hx6 hx7 z0 z1 z2 z3
            generalize hnl : (preL a b).length = nl at *
            have HNL := Lib.hid hnl
            clear hnl
            go_wp2_with fail
            exact bodyPost_ret (v := .tuple #[.agg #[.int .i64 a.tp, .int .i64 a.sy, .int .i64 (a.st + b.st), .slice Av nl cv], .int .i64 0]) (by simp [results, Try.results15, go_sem, cO]) rfl ⟨.inr (.inr ⟨⟨a.tp, a.sy, a.st + b.st, rs'⟩, _, ⟨HOA.out, HOB.out, HOK.out, HTP.out, HSY.out, rfl, HPM.out⟩, rfl, rfl, rfl, HMR.out _ _ _ _⟩), HEX.out _ _ _ _⟩
  · have HS := Lib.hid hsame
    have fin : ∀ (X : World), X = X := fun _ => rfl
    by_cases h1 : a.tp = b.tp
    · have h2 : ¬ a.sy = b.sy := fun h => hsame ⟨h1, h⟩
      have e1 : (a.tp != b.tp) = false := by simp [h1]
      have e2 : (a.sy != b.sy) = true := by simp [h2]
      clear hsame h1 h2 bA2 bB2 bO2 hX2
      go_wp2_with fail
      exact bodyPost_ret (v := .tuple #[.agg #[.int .i64 0, .int .i64 0, .int .i64 0, .slice none 0 0], .int .i64 2]) (by simp [results, Try.results15, go_sem, cO]) rfl ⟨.inl ⟨HS.out, rfl⟩, HEX.out _ _ _ _⟩
    · have e1 : (a.tp != b.tp) = true := by simp [h1]
      clear hsame h1 bA2 bB2 bO2 hX2
      go_wp2_with fail
      exact bodyPost_ret (v := .tuple #[.agg #[.int .i64 0, .int .i64 0, .int .i64 0, .slice none 0 0], .int .i64 2]) (by simp [results, Try.results15, go_sem, cO]) rfl ⟨.inl ⟨HS.out, rfl⟩, HEX.out _ _ _ _⟩
end Go.Proofs.Ytkbpchdncljlbaa
end
