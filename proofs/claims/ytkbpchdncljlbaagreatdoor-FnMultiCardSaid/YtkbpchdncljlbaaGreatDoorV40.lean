/- Contracts of the reference's copier and of its machine of palindromes.
The append of one list of numbers to another, by its run. No condition.
Contract of the reference's tape behind a writing and a move. -/
import Derived.Test.YtkbpchdncljlbaaGreatDoorV39
import Derived.Test.YtkbpchdncljlbaaGreatDoorV03
import Derived.Maps.AppendAt
import Derived.Laws.AppendOwnNone
import Derived.Test.YtkbpchdncljlbaaGreatDoorV38
import Derived.Test.YtkbpchdncljlbaaGreatDoorV36
import Derived.Deep.CutBlock
import Derived.Deep.DeepCutAuto
section
set_option linter.unusedVariables false
set_option linter.unusedSimpArgs false
namespace Go.Proofs.YtkbpchdncljlbaaGreatDoor
open Go Go.RowKit Go.Proofs Go.Maps
set_option maxHeartbeats 400000
/-- A machine under construction: its block, that of the result, its rules. -/
structure OutM (w : World) (base g gO : Nat) (tp sy st : Int) (rs : List MRuleD) (v : Value) (wr : World) : Prop where
  out : Blk wr gO 26 #[.int .i64 0, .int .i64 0, .int .i64 0, .slice none 0 0]
  cur : Blk wr g 26 #[.int .i64 tp, .int .i64 sy, .int .i64 st, v]
  own : OwnMR base wr v rs
  ext : Ext w wr
theorem OutM.c3 {w : World} {base g gO : Nat} {tp sy st : Int} {rs : List MRuleD} {v : Value} {wr : World} (h : OutM w base g gO tp sy st rs v wr) : wr.cell? ⟨g, 3, none⟩ = some v := h.cur.cell 3
theorem OutM.step {w : World} {base g gO : Nat} {tp sy st : Int} {rs rs' : List MRuleD} {v v' : Value} {wr w' : World} (h : OutM w base g gO tp sy st rs v wr) (hne : gO ≠ g) (hw : w.heap.size ≤ base) (hg0 : w.heap.size ≤ g) (ho : OwnMR base w' v' rs') (hg : wr.grownBy w' v.ownBlock) :
    Blk w' g 26 #[.int .i64 tp, .int .i64 sy, .int .i64 st, v] ∧ OutM w base g gO tp sy st rs' v' (w'.setCell ⟨g, 3, none⟩ v') := by
  obtain ⟨cl, h1, h2⟩ := h.own
  have b1 := Blk.apart h.cur h1 (by decide) hg
  have b2 := Blk.apart h.out h1 (by decide) hg
  have hx : Ext w w' := h.ext.grown hg (fun q hq => by have := (h1.lt q hq).1; omega)
  exact ⟨b1, b2.far (p := ⟨g, 3, none⟩) hne _, b1.set_ 3 v', ho.far b1 (by decide) (by decide) 3 v', hx.setCell (p := ⟨g, 3, none⟩) hg0 v'⟩
theorem OutM.done {w : World} {base g gO : Nat} {tp sy st : Int} {rs : List MRuleD} {v : Value} {wr : World} (h : OutM w base g gO tp sy st rs v wr) (hw : w.heap.size ≤ base) (hg0 : w.heap.size ≤ gO) (u0 u1 u2 u3 : Value) :
    OwnMR w.heap.size ((((wr.setCell ⟨gO, 0, none⟩ u0).setCell ⟨gO, 1, none⟩ u1).setCell ⟨gO, 2, none⟩ u2).setCell ⟨gO, 3, none⟩ u3) v rs ∧ Ext w ((((wr.setCell ⟨gO, 0, none⟩ u0).setCell ⟨gO, 1, none⟩ u1).setCell ⟨gO, 2, none⟩ u2).setCell ⟨gO, 3, none⟩ u3) := by
  have b0 := h.out
  have b1 := b0.set_ 0 u0
  have b2 := b1.set_ 1 u1
  have b3 := b2.set_ 2 u2
  exact ⟨((((h.own.far b0 (by decide) (by decide) 0 u0).far b1 (by decide) (by decide) 1 u1).far b2 (by decide) (by decide) 2 u2).far b3 (by decide) (by decide) 3 u3).base hw,
    (((h.ext.setCell (p := ⟨gO, 0, none⟩) hg0 u0).setCell (p := ⟨gO, 1, none⟩) hg0 u1).setCell (p := ⟨gO, 2, none⟩) hg0 u2).setCell (p := ⟨gO, 3, none⟩) hg0 u3⟩
/-- The rules of the reference's machine of palindromes, as they are put in. -/
def palK : Nat → List MRuleD
  | 0 => insM (insM (insM [] (mkM 0 0 0 0 (-1) 0 1)) (mkM 1 0 0 0 1 (-1) 2)) (mkM 2 0 0 0 0 0 3)
  | k + 1 => insM (insM (insM (palK k) (mkM 0 ((k : Int) + 1) 0 ((k : Int) + 1) 1 1 0)) (mkM 1 ((k : Int) + 1) 0 0 (-1) 0 1)) (mkM 2 ((k : Int) + 1) ((k : Int) + 1) ((k : Int) + 1) 1 (-1) 2)
theorem palK_len : ∀ k, (palK k).length = 3 + 3 * k
  | 0 => by simp [palK, insM_len]
  | k + 1 => by
    have := palK_len k
    simp only [palK, insM_len]
    omega
theorem palK_ok {sy : Int} (h : sy = 2 ∨ sy = 3) : multiOk ⟨2, sy, 4, palK (sy.toNat - 1)⟩ = true := by
  rcases h with rfl | rfl <;> decide +kernel
theorem cpyK_ok {sy : Int} (h : sy = 2 ∨ sy = 3) : multiOk ⟨2, sy, 1, copyRs (sy.toNat - 1)⟩ = true := by
  rcases h with rfl | rfl <;> decide +kernel
set_option maxRecDepth 20000 in
set_option maxHeartbeats 8000000 in
theorem PalindromeMultiS_c (n : Nat) (w : World) (h1 : 2 ≤ n) (h2 : n ≤ 3) : Calls Tryz.prog 43 #[.int .i64 (n : Int)] w fun e w' => (∃ v, e = .returned (.tuple #[.agg #[.int .i64 2, .int .i64 (n : Int), .int .i64 4, v], .int .i64 0]) ∧ OwnMR w.heap.size w' v (palK (n - 1))) ∧ Ext w w' := by
  obtain ⟨g, hg⟩ : ∃ g, w.heap.size = g := ⟨_, rfl⟩
  obtain ⟨V, hV⟩ : ∃ V, V = w.alloc (.cells #[.int .i64 0, .int .i64 0, .int .i64 0, .slice none 0 0] 26) := ⟨_, rfl⟩
  have hX : Ext w V := by rw [hV]; exact Ext.alloc _ _
  have bV : Blk V g 26 #[.int .i64 0, .int .i64 0, .int .i64 0, .slice none 0 0] := by rw [hV]; exact Blk.new _ _ _ _ hg
  have hVs : V.heap.size = g + 1 := by rw [hV]; simp [hg]
  have WI := fun w => l00In_c (n : Int) 2 3 w
  have hb : inB (n : Int) 2 3 = true := inB_iff.2 ⟨by omega, by omega⟩
  rw [hb] at WI
  go_enter Tryz.func43, Tryz.ntmps43
  go_wp2_with fail
  try rw [← hV]
  try rw [hg]
  clear hV
  refine (WI V).mono ?_
  rintro e _ ⟨rfl, rfl⟩
  clear WI hb
  obtain ⟨W, hW⟩ : ∃ W, W = V.alloc (.cells #[.int .i64 2, .int .i64 (n : Int), .int .i64 4, .slice none 0 0] 26) := ⟨_, rfl⟩
  have eW : Ext V W := by rw [hW]; exact Ext.alloc _ _
  have bW : Blk W (g + 1) 26 #[.int .i64 2, .int .i64 (n : Int), .int .i64 4, .slice none 0 0] := by rw [hW]; exact Blk.new _ _ _ _ hVs
  have st0 : OutM w (g + 1 + 1) (g + 1) g 2 (n : Int) 4 [] (.slice none 0 0) W := ⟨bV.ext eW, bW, ⟨[], World.ownsRow_nil .., MCells.nil _ _⟩, hX.trans eW⟩
  have hsW : g + 1 + 1 ≤ W.heap.size := by have := bW.lt; omega
  have hgw : w.heap.size ≤ g + 1 + 1 := by omega
  have zD1 := Ext.drew W
  have z1 := zD1.cell st0.c3
  have hl1 : ((([] : List MRuleD)) : List MRuleD).length ≤ 1000000 := by simp
  go_wp2_with fail
  try rw [← hW]
  try clear hW
  refine wp_region_ordT 3 (readsT [0, 1] (.stir 2 .done)) (by kernel_rfl) (by kernel_rfl) (fun _ _ _ _ _ h => h) ?_
  simp only [readsT]
  iterate 2 (refine wpOrdT_read (v := ?_) (by rfl) (Or.inl ⟨by rfl, fun x hx => ?_⟩) ?_; rotate_left; (· have a1 := hx.cell z1; go_simp; try with_reducible rfl); try simp only [Act.put, List.setIfInBounds_toArray, List.set_cons_zero, List.set_cons_succ])
  refine wpOrdT_stir (by rfl) (fun K hK => ?_)
  go_simp
  go_at_call 80
  refine (l06Make_c 0 0 0 0 (-1) 0 1 W.drew).mono ?_
  rintro e wm1 ⟨A1, c1, A2, c2, A3, c3, rfl, hr, hx⟩
  refine hK _ _ hx ?_
  clear hK K
  try simp only [Act.put, List.setIfInBounds_toArray, List.set_cons_zero, List.set_cons_succ]
  refine wpOrdT_done ?_
  try simp only [List.drop_succ_cons, List.drop_zero]
  have hxm1 := zD1.trans hx
  have sm1 : OutM w (g + 1 + 1) (g + 1) g 2 (n : Int) 4 (([] : List MRuleD)) _ wm1 := ⟨st0.out.ext hxm1, st0.cur.ext hxm1, st0.own.ext hxm1, st0.ext.trans hxm1⟩
  have szm1 := hxm1.size
  have hsm1 : g + 1 + 1 ≤ wm1.heap.size := by omega
  have PU := l06Put_c (g + 1 + 1) _ _ _ _ wm1 sm1.own (hr.low (by have := zD1.size; omega)) hsm1 hl1
  clear hr hx z1 zD1 hxm1
  go_wp2_with fail
  refine PU.mono ?_
  rintro e wp1 ⟨v1, rfl, ho, hg1, _⟩
  have hlq : (insM ([] : List MRuleD) (mkM 0 0 0 0 (-1) 0 1)).length = ([] : List MRuleD).length + 1 := insM_len _ _
  obtain ⟨L1, hL⟩ : ∃ Lz, insM ([] : List MRuleD) (mkM 0 0 0 0 (-1) 0 1) = Lz := ⟨_, rfl⟩
  rw [hL] at ho hlq
  have hll1 := Lib.hid hlq
  clear hlq
  have HL1 := Lib.hid hL
  clear hL
  obtain ⟨R1, r1, rfl, _, _⟩ := ho.form
  obtain ⟨bc1, st1⟩ := sm1.step (by omega) (by omega) (by omega) ho hg1
  have sp1 := hg1.size
  have hs1 : g + 1 + 1 ≤ (wp1.setCell ⟨g + 1, 3, none⟩ (.slice R1 L1.length r1)).heap.size := by simp; omega
  have cb := bc1.cell
  have cf := bc1.frozen
  clear PU sm1 ho hg1 st0 bc1 szm1 hsm1 sp1 hsW
  have zD2 := Ext.drew (wp1.setCell ⟨g + 1, 3, none⟩ (.slice R1 L1.length r1))
  have z1 := zD2.cell st1.c3
  have hl2 : ((L1) : List MRuleD).length ≤ 1000000 := by have := hll1.out; simp at this; omega
  go_wp2_with fail
  try rw [← hW]
  try clear hW
  refine wp_region_ordT 3 (readsT [0, 1] (.stir 2 .done)) (by kernel_rfl) (by kernel_rfl) (fun _ _ _ _ _ h => h) ?_
  simp only [readsT]
  iterate 2 (refine wpOrdT_read (v := ?_) (by rfl) (Or.inl ⟨by rfl, fun x hx => ?_⟩) ?_; rotate_left; (· have a1 := hx.cell z1; go_simp; try with_reducible rfl); try simp only [Act.put, List.setIfInBounds_toArray, List.set_cons_zero, List.set_cons_succ])
  refine wpOrdT_stir (by rfl) (fun K hK => ?_)
  go_simp
  go_at_call 80
  refine (l06Make_c 1 0 0 0 1 (-1) 2 (wp1.setCell ⟨g + 1, 3, none⟩ (.slice R1 L1.length r1)).drew).mono ?_
  rintro e wm2 ⟨A1, c1, A2, c2, A3, c3, rfl, hr, hx⟩
  refine hK _ _ hx ?_
  clear hK K
  try simp only [Act.put, List.setIfInBounds_toArray, List.set_cons_zero, List.set_cons_succ]
  refine wpOrdT_done ?_
  try simp only [List.drop_succ_cons, List.drop_zero]
  have hxm2 := zD2.trans hx
  have sm2 : OutM w (g + 1 + 1) (g + 1) g 2 (n : Int) 4 (L1) _ wm2 := ⟨st1.out.ext hxm2, st1.cur.ext hxm2, st1.own.ext hxm2, st1.ext.trans hxm2⟩
  have szm2 := hxm2.size
  have hsm2 : g + 1 + 1 ≤ wm2.heap.size := by omega
  have PU := l06Put_c (g + 1 + 1) _ _ _ _ wm2 sm2.own (hr.low (by have := zD2.size; omega)) hsm2 hl2
  clear hr hx z1 zD2 hxm2
  go_wp2_with fail
  refine PU.mono ?_
  rintro e wp2 ⟨v2, rfl, ho, hg2, _⟩
  have hlq : (insM L1 (mkM 1 0 0 0 1 (-1) 2)).length = L1.length + 1 := insM_len _ _
  obtain ⟨L2, hL⟩ : ∃ Lz, insM L1 (mkM 1 0 0 0 1 (-1) 2) = Lz := ⟨_, rfl⟩
  rw [hL] at ho hlq
  have hll2 := Lib.hid hlq
  clear hlq
  have HL2 := Lib.hid hL
  clear hL
  obtain ⟨R2, r2, rfl, _, _⟩ := ho.form
  obtain ⟨bc2, st2⟩ := sm2.step (by omega) (by omega) (by omega) ho hg2
  have sp2 := hg2.size
  have hs2 : g + 1 + 1 ≤ (wp2.setCell ⟨g + 1, 3, none⟩ (.slice R2 L2.length r2)).heap.size := by simp; omega
  have cb := bc2.cell
  have cf := bc2.frozen
  clear PU sm2 ho hg2 st1 bc2 szm2 hsm2 sp2 hs1
  have zD3 := Ext.drew (wp2.setCell ⟨g + 1, 3, none⟩ (.slice R2 L2.length r2))
  have z1 := zD3.cell st2.c3
  have hl3 : ((L2) : List MRuleD).length ≤ 1000000 := by have := hll1.out; have := hll2.out; simp at *; omega
  go_wp2_with fail
  try rw [← hW]
  try clear hW
  refine wp_region_ordT 3 (readsT [0, 1] (.stir 2 .done)) (by kernel_rfl) (by kernel_rfl) (fun _ _ _ _ _ h => h) ?_
  simp only [readsT]
  iterate 2 (refine wpOrdT_read (v := ?_) (by rfl) (Or.inl ⟨by rfl, fun x hx => ?_⟩) ?_; rotate_left; (· have a1 := hx.cell z1; go_simp; try with_reducible rfl); try simp only [Act.put, List.setIfInBounds_toArray, List.set_cons_zero, List.set_cons_succ])
  refine wpOrdT_stir (by rfl) (fun K hK => ?_)
  go_simp
  go_at_call 80
  refine (l06Make_c 2 0 0 0 0 0 3 (wp2.setCell ⟨g + 1, 3, none⟩ (.slice R2 L2.length r2)).drew).mono ?_
  rintro e wm3 ⟨A1, c1, A2, c2, A3, c3, rfl, hr, hx⟩
  refine hK _ _ hx ?_
  clear hK K
  try simp only [Act.put, List.setIfInBounds_toArray, List.set_cons_zero, List.set_cons_succ]
  refine wpOrdT_done ?_
  try simp only [List.drop_succ_cons, List.drop_zero]
  have hxm3 := zD3.trans hx
  have sm3 : OutM w (g + 1 + 1) (g + 1) g 2 (n : Int) 4 (L2) _ wm3 := ⟨st2.out.ext hxm3, st2.cur.ext hxm3, st2.own.ext hxm3, st2.ext.trans hxm3⟩
  have szm3 := hxm3.size
  have hsm3 : g + 1 + 1 ≤ wm3.heap.size := by omega
  have PU := l06Put_c (g + 1 + 1) _ _ _ _ wm3 sm3.own (hr.low (by have := zD3.size; omega)) hsm3 hl3
  clear hr hx z1 zD3 hxm3
  go_wp2_with fail
  refine PU.mono ?_
  rintro e wp3 ⟨v3, rfl, ho, hg3, _⟩
  have hlq : (insM L2 (mkM 2 0 0 0 0 0 3)).length = L2.length + 1 := insM_len _ _
  obtain ⟨L3, hL⟩ : ∃ Lz, insM L2 (mkM 2 0 0 0 0 0 3) = Lz := ⟨_, rfl⟩
  rw [hL] at ho hlq
  have hll3 := Lib.hid hlq
  clear hlq
  have HL3 := Lib.hid hL
  clear hL
  obtain ⟨R3, r3, rfl, _, _⟩ := ho.form
  obtain ⟨bc3, st3⟩ := sm3.step (by omega) (by omega) (by omega) ho hg3
  have sp3 := hg3.size
  have hs3 : g + 1 + 1 ≤ (wp3.setCell ⟨g + 1, 3, none⟩ (.slice R3 L3.length r3)).heap.size := by simp; omega
  have cb := bc3.cell
  have cf := bc3.frozen
  clear PU sm3 ho hg3 st2 bc3 szm3 hsm3 sp3 hs2
  have HE : palK 0 = L3 := by rw [← HL3.out, ← HL2.out, ← HL1.out]; rfl
  go_wp2_with fail
  go_loopw [5] (fun u wr => ∃ (k : Nat) (v : Value) (L : List MRuleD), k + 1 ≤ n ∧ u = .int .i64 ((k : Int) + 1) ∧ Hid (palK k = L) ∧ OutM w (g + 1 + 1) (g + 1) g 2 (n : Int) 4 L v wr ∧ g + 1 + 1 ≤ wr.heap.size) (fun u _ => n - (intOf u).toNat)
  case atStart => exact ⟨0, _, _, by omega, rfl, HE, st3, hs3⟩
  case round =>
    clear st3 hs3 cb cf HE HL1 HL2 HL3 hll1 hll2 hll3
    obtain ⟨k, v, L, hk, rfl, HPK, stk, hsk⟩ := hrel
    obtain ⟨Rk, ck, rfl, _, _⟩ := stk.own.form
    have hlk := palK_len k
    rw [HPK.out] at hlk
    have HLK := Lib.hid hlk
    clear hlk
    by_cases hlt : k + 1 < n
    · have hlt2 : (k : Int) + 1 < (n : Int) := by omega
      have zD5 := Ext.drew wr
      have z1 := zD5.cell stk.c3
      have hl5 : ((L) : List MRuleD).length ≤ 1000000 := by have := HLK.out; omega
      go_wp2_with fail
      try rw [← hW]
      try clear hW
      refine wp_region_ordT 5 (readsT [0, 1, 2, 3] (.stir 4 .done)) (by kernel_rfl) (by kernel_rfl) (fun _ _ _ _ _ h => h) ?_
      simp only [readsT]
      iterate 4 (refine wpOrdT_read (v := ?_) (by rfl) (Or.inl ⟨by rfl, fun x hx => ?_⟩) ?_; rotate_left; (· have a1 := hx.cell z1; go_simp; try with_reducible rfl); try simp only [Act.put, List.setIfInBounds_toArray, List.set_cons_zero, List.set_cons_succ])
      refine wpOrdT_stir (by rfl) (fun K hK => ?_)
      go_simp
      go_at_call 80
      refine (l06Make_c 0 ((k : Int) + 1) 0 ((k : Int) + 1) 1 1 0 wr.drew).mono ?_
      rintro e wm5 ⟨A1, c1, A2, c2, A3, c3, rfl, hr, hx⟩
      refine hK _ _ hx ?_
      clear hK K
      try simp only [Act.put, List.setIfInBounds_toArray, List.set_cons_zero, List.set_cons_succ]
      refine wpOrdT_done ?_
      try simp only [List.drop_succ_cons, List.drop_zero]
      have hxm5 := zD5.trans hx
      have sm5 : OutM w (g + 1 + 1) (g + 1) g 2 (n : Int) 4 (L) _ wm5 := ⟨stk.out.ext hxm5, stk.cur.ext hxm5, stk.own.ext hxm5, stk.ext.trans hxm5⟩
      have szm5 := hxm5.size
      have hsm5 : g + 1 + 1 ≤ wm5.heap.size := by omega
      have PU := l06Put_c (g + 1 + 1) _ _ _ _ wm5 sm5.own (hr.low (by have := zD5.size; omega)) hsm5 hl5
      clear hr hx z1 zD5 hxm5
      go_wp2_with fail
      refine PU.mono ?_
      rintro e wp5 ⟨v5, rfl, ho, hg5, _⟩
      have hlq : (insM L (mkM 0 ((k : Int) + 1) 0 ((k : Int) + 1) 1 1 0)).length = L.length + 1 := insM_len _ _
      obtain ⟨L5, hL⟩ : ∃ Lz, insM L (mkM 0 ((k : Int) + 1) 0 ((k : Int) + 1) 1 1 0) = Lz := ⟨_, rfl⟩
      rw [hL] at ho hlq
      have hll5 := Lib.hid hlq
      clear hlq
      have HL5 := Lib.hid hL
      clear hL
      obtain ⟨R5, r5, rfl, _, _⟩ := ho.form
      obtain ⟨bc5, st5⟩ := sm5.step (by omega) (by omega) (by omega) ho hg5
      have sp5 := hg5.size
      have hs5 : g + 1 + 1 ≤ (wp5.setCell ⟨g + 1, 3, none⟩ (.slice R5 L5.length r5)).heap.size := by simp; omega
      have cb := bc5.cell
      have cf := bc5.frozen
      clear PU sm5 ho hg5 stk bc5 szm5 hsm5 sp5 hsk
      have zD6 := Ext.drew (wp5.setCell ⟨g + 1, 3, none⟩ (.slice R5 L5.length r5))
      have z1 := zD6.cell st5.c3
      have hl6 : ((L5) : List MRuleD).length ≤ 1000000 := by have := hll5.out; have := HLK.out; omega
      go_wp2_with fail
      try rw [← hW]
      try clear hW
      refine wp_region_ordT 4 (readsT [0, 1, 2] (.stir 3 .done)) (by kernel_rfl) (by kernel_rfl) (fun _ _ _ _ _ h => h) ?_
      simp only [readsT]
      iterate 3 (refine wpOrdT_read (v := ?_) (by rfl) (Or.inl ⟨by rfl, fun x hx => ?_⟩) ?_; rotate_left; (· have a1 := hx.cell z1; go_simp; try with_reducible rfl); try simp only [Act.put, List.setIfInBounds_toArray, List.set_cons_zero, List.set_cons_succ])
      refine wpOrdT_stir (by rfl) (fun K hK => ?_)
      go_simp
      go_at_call 80
      refine (l06Make_c 1 ((k : Int) + 1) 0 0 (-1) 0 1 (wp5.setCell ⟨g + 1, 3, none⟩ (.slice R5 L5.length r5)).drew).mono ?_
      rintro e wm6 ⟨A1, c1, A2, c2, A3, c3, rfl, hr, hx⟩
      refine hK _ _ hx ?_
      clear hK K
      try simp only [Act.put, List.setIfInBounds_toArray, List.set_cons_zero, List.set_cons_succ]
      refine wpOrdT_done ?_
      try simp only [List.drop_succ_cons, List.drop_zero]
      have hxm6 := zD6.trans hx
      have sm6 : OutM w (g + 1 + 1) (g + 1) g 2 (n : Int) 4 (L5) _ wm6 := ⟨st5.out.ext hxm6, st5.cur.ext hxm6, st5.own.ext hxm6, st5.ext.trans hxm6⟩
      have szm6 := hxm6.size
      have hsm6 : g + 1 + 1 ≤ wm6.heap.size := by omega
      have PU := l06Put_c (g + 1 + 1) _ _ _ _ wm6 sm6.own (hr.low (by have := zD6.size; omega)) hsm6 hl6
      clear hr hx z1 zD6 hxm6
      go_wp2_with fail
      refine PU.mono ?_
      rintro e wp6 ⟨v6, rfl, ho, hg6, _⟩
      have hlq : (insM L5 (mkM 1 ((k : Int) + 1) 0 0 (-1) 0 1)).length = L5.length + 1 := insM_len _ _
      obtain ⟨L6, hL⟩ : ∃ Lz, insM L5 (mkM 1 ((k : Int) + 1) 0 0 (-1) 0 1) = Lz := ⟨_, rfl⟩
      rw [hL] at ho hlq
      have hll6 := Lib.hid hlq
      clear hlq
      have HL6 := Lib.hid hL
      clear hL
      obtain ⟨R6, r6, rfl, _, _⟩ := ho.form
      obtain ⟨bc6, st6⟩ := sm6.step (by omega) (by omega) (by omega) ho hg6
      have sp6 := hg6.size
      have hs6 : g + 1 + 1 ≤ (wp6.setCell ⟨g + 1, 3, none⟩ (.slice R6 L6.length r6)).heap.size := by simp; omega
      have cb := bc6.cell
      have cf := bc6.frozen
      clear PU sm6 ho hg6 st5 bc6 szm6 hsm6 sp6 hs5
      have zD7 := Ext.drew (wp6.setCell ⟨g + 1, 3, none⟩ (.slice R6 L6.length r6))
      have z1 := zD7.cell st6.c3
      have hl7 : ((L6) : List MRuleD).length ≤ 1000000 := by have := hll5.out; have := hll6.out; have := HLK.out; omega
      go_wp2_with fail
      try rw [← hW]
      try clear hW
      refine wp_region_ordT 6 (readsT [0, 1, 2, 3, 4] (.stir 5 .done)) (by kernel_rfl) (by kernel_rfl) (fun _ _ _ _ _ h => h) ?_
      simp only [readsT]
      iterate 5 (refine wpOrdT_read (v := ?_) (by rfl) (Or.inl ⟨by rfl, fun x hx => ?_⟩) ?_; rotate_left; (· have a1 := hx.cell z1; go_simp; try with_reducible rfl); try simp only [Act.put, List.setIfInBounds_toArray, List.set_cons_zero, List.set_cons_succ])
      refine wpOrdT_stir (by rfl) (fun K hK => ?_)
      go_simp
      go_at_call 80
      refine (l06Make_c 2 ((k : Int) + 1) ((k : Int) + 1) ((k : Int) + 1) 1 (-1) 2 (wp6.setCell ⟨g + 1, 3, none⟩ (.slice R6 L6.length r6)).drew).mono ?_
      rintro e wm7 ⟨A1, c1, A2, c2, A3, c3, rfl, hr, hx⟩
      refine hK _ _ hx ?_
      clear hK K
      try simp only [Act.put, List.setIfInBounds_toArray, List.set_cons_zero, List.set_cons_succ]
      refine wpOrdT_done ?_
      try simp only [List.drop_succ_cons, List.drop_zero]
      have hxm7 := zD7.trans hx
      have sm7 : OutM w (g + 1 + 1) (g + 1) g 2 (n : Int) 4 (L6) _ wm7 := ⟨st6.out.ext hxm7, st6.cur.ext hxm7, st6.own.ext hxm7, st6.ext.trans hxm7⟩
      have szm7 := hxm7.size
      have hsm7 : g + 1 + 1 ≤ wm7.heap.size := by omega
      have PU := l06Put_c (g + 1 + 1) _ _ _ _ wm7 sm7.own (hr.low (by have := zD7.size; omega)) hsm7 hl7
      clear hr hx z1 zD7 hxm7
      go_wp2_with fail
      refine PU.mono ?_
      rintro e wp7 ⟨v7, rfl, ho, hg7, _⟩
      have hlq : (insM L6 (mkM 2 ((k : Int) + 1) ((k : Int) + 1) ((k : Int) + 1) 1 (-1) 2)).length = L6.length + 1 := insM_len _ _
      obtain ⟨L7, hL⟩ : ∃ Lz, insM L6 (mkM 2 ((k : Int) + 1) ((k : Int) + 1) ((k : Int) + 1) 1 (-1) 2) = Lz := ⟨_, rfl⟩
      rw [hL] at ho hlq
      have hll7 := Lib.hid hlq
      clear hlq
      have HL7 := Lib.hid hL
      clear hL
      obtain ⟨R7, r7, rfl, _, _⟩ := ho.form
      obtain ⟨bc7, st7⟩ := sm7.step (by omega) (by omega) (by omega) ho hg7
      have sp7 := hg7.size
      have hs7 : g + 1 + 1 ≤ (wp7.setCell ⟨g + 1, 3, none⟩ (.slice R7 L7.length r7)).heap.size := by simp; omega
      have cb := bc7.cell
      have cf := bc7.frozen
      clear PU sm7 ho hg7 st6 bc7 szm7 hsm7 sp7 hs6
      have HSN : Hid (palK (k + 1) = L7) := Lib.hid (by rw [← HL7.out, ← HL6.out, ← HL5.out, ← HPK.out]; rfl)
      have HST := Lib.hid st7
      clear st7 HPK HL5 HL6 HL7
      go_wp2_with fail
      go_roundw
      case rel => exact ⟨k + 1, _, _, by omega, by go_num, HSN, HST.out, hs7⟩
      case measure => simp [intOf]; omega
    · obtain rfl : n = k + 1 := by omega
      have HD := Lib.hid (stk.done (by omega) (by omega))
      have hq0 := stk.cur.cell 0
      have hq1 := stk.cur.cell 1
      have hq2 := stk.cur.cell 2
      have hq3 := stk.cur.cell 3
      simp only [List.getElem?_toArray, List.getElem?_cons_zero, List.getElem?_cons_succ] at hq0 hq1 hq2 hq3
      have ob := stk.out.cell
      have of_ := stk.out.frozen
      generalize hLL : L.length = nl at *
      have HLL := Lib.hid hLL
      clear stk hLL
      go_wp2_with fail
      refine bodyPost_ret (v := .tuple #[.agg #[.int .i64 2, .int .i64 ((k + 1 : Nat) : Int), .int .i64 4, .slice Rk nl ck], .int .i64 0]) (by simp [results, Tryz.results43, go_sem, ob]) rfl ⟨⟨_, rfl, ?_⟩, (HD.out _ _ _ _).2⟩
      rw [show k + 1 - 1 = k from rfl, HPK.out]
      exact (HD.out _ _ _ _).1
set_option maxRecDepth 20000 in
set_option maxHeartbeats 8000000 in
theorem CopyMultiS_c (n : Nat) (w : World) (h1 : 2 ≤ n) (h2 : n ≤ 3) : Calls Tryz.prog 42 #[.int .i64 (n : Int)] w fun e w' => (∃ v, e = .returned (.tuple #[.agg #[.int .i64 2, .int .i64 (n : Int), .int .i64 1, v], .int .i64 0]) ∧ OwnMR w.heap.size w' v (copyRs (n - 1))) ∧ Ext w w' := by
  obtain ⟨i0, hi0, hz0, hz1, hz2⟩ := info_parts mruleInfo
  obtain ⟨g, hg⟩ : ∃ g, w.heap.size = g := ⟨_, rfl⟩
  obtain ⟨V, hV⟩ : ∃ V, V = w.alloc (.cells #[.int .i64 0, .int .i64 0, .int .i64 0, .slice none 0 0] 26) := ⟨_, rfl⟩
  have hX : Ext w V := by rw [hV]; exact Ext.alloc _ _
  have bV : Blk V g 26 #[.int .i64 0, .int .i64 0, .int .i64 0, .slice none 0 0] := by rw [hV]; exact Blk.new _ _ _ _ hg
  have hVs : V.heap.size = g + 1 := by rw [hV]; simp [hg]
  have WI := fun w => l00In_c (n : Int) 2 3 w
  have hb : inB (n : Int) 2 3 = true := inB_iff.2 ⟨by omega, by omega⟩
  rw [hb] at WI
  go_enter Tryz.func42, Tryz.ntmps42
  go_wp2_with fail
  try rw [← hV]
  try rw [hg]
  clear hV
  refine (WI V).mono ?_
  rintro e _ ⟨rfl, rfl⟩
  clear WI hb
  obtain ⟨W, hW⟩ : ∃ W, W = V.alloc (.cells #[.int .i64 2, .int .i64 (n : Int), .int .i64 1, .slice none 0 0] 26) := ⟨_, rfl⟩
  have eW : Ext V W := by rw [hW]; exact Ext.alloc _ _
  have bW : Blk W (g + 1) 26 #[.int .i64 2, .int .i64 (n : Int), .int .i64 1, .slice none 0 0] := by rw [hW]; exact Blk.new _ _ _ _ hVs
  have st0 : OutM w (g + 1 + 1) (g + 1) g 2 (n : Int) 1 [] (.slice none 0 0) W := ⟨bV.ext eW, bW, ⟨[], World.ownsRow_nil .., MCells.nil _ _⟩, hX.trans eW⟩
  have hsW : g + 1 + 1 ≤ W.heap.size := by have := bW.lt; omega
  have hgw : w.heap.size ≤ g + 1 + 1 := by omega
  go_wp2_with fail
  try rw [← hW]
  clear hW
  go_loopw [5] (fun u wr => ∃ (k : Nat) (v : Value), k + 1 ≤ n ∧ u = .int .i64 ((k : Int) + 1) ∧ OutM w (g + 1 + 1) (g + 1) g 2 (n : Int) 1 (copyRs k) v wr ∧ g + 1 + 1 ≤ wr.heap.size) (fun u _ => n - (intOf u).toNat)
  case atStart => exact ⟨0, _, by omega, rfl, st0, hsW⟩
  case round =>
    clear st0 hsW
    obtain ⟨k, v, hk, rfl, st, hsk⟩ := hrel
    by_cases hlt : k + 1 < n
    · have hlt2 : (k : Int) + 1 < (n : Int) := by omega
      obtain ⟨cl, ho, hcl⟩ := st.own
      rw [copyRs_len] at ho
      obtain ⟨Av, cv, rfl, _, _, _⟩ := (ownsRow_row ho).form
      have zD := Ext.drew wr
      have z1 := zD.cell st.c3
      go_wp2_with fail
      refine wp_region_ordT 6 (readsT [0, 1, 2, 3] (.stir 4 (.stir 5 .done))) (by kernel_rfl) (by kernel_rfl) (fun _ _ _ _ _ h => h) ?_
      simp only [readsT]
      iterate 4 (refine wpOrdT_read (v := ?_) (by rfl) (Or.inl ⟨by rfl, fun x hx => ?_⟩) ?_; rotate_left; (· have a1 := hx.cell z1; go_simp; try with_reducible rfl); try simp only [Act.put, List.setIfInBounds_toArray, List.set_cons_zero, List.set_cons_succ])
      refine wpOrdT_stir (by rfl) (fun K hK => ?_)
      go_simp
      go_at_call 80
      refine (l06Make_c 0 ((k : Int) + 1) 0 ((k : Int) + 1) 1 1 0 wr.drew).mono ?_
      rintro e w3 ⟨A1, c1, A2, c2, A3, c3, rfl, hr, hx⟩
      refine hK _ _ hx ?_
      clear hK K
      try simp only [Act.put, List.setIfInBounds_toArray, List.set_cons_zero, List.set_cons_succ]
      refine wpOrdT_stir (by rfl) (fun K hK => ?_)
      go_simp
      have eA := Ext.alloc w3 (.cells #[.int .i64 0, .slice A1 2 c1, .slice A2 2 c2, .slice A3 2 c3, .int .i64 0] 64)
      refine hK _ _ eA ?_
      clear hK K
      try simp only [Act.put, List.setIfInBounds_toArray, List.set_cons_zero, List.set_cons_succ]
      refine wpOrdT_done ?_
      try simp only [List.drop_succ_cons, List.drop_zero]
      obtain ⟨W6, hW6⟩ : ∃ W6, W6 = w3.alloc (.cells #[.int .i64 0, .slice A1 2 c1, .slice A2 2 c2, .slice A3 2 c3, .int .i64 0] 64) := ⟨_, rfl⟩
      rw [← hW6] at eA
      have bN : Blk W6 w3.heap.size 64 #[.int .i64 0, .slice A1 2 c1, .slice A2 2 c2, .slice A3 2 c3, .int .i64 0] := by rw [hW6]; exact Blk.new _ _ _ _ rfl
      have hX6 := (zD.trans hx).trans eA
      have ho6 := ownsRow_ext ho hX6
      have szz := hX6.size
      have zs := zD.size
      have s6 : OutM w (g + 1 + 1) (g + 1) g 2 (n : Int) 1 (copyRs k) (.slice Av k cv) W6 := ⟨st.out.ext hX6, st.cur.ext hX6, st.own.ext hX6, st.ext.trans hX6⟩
      have hNL : MCells (g + 1 + 1) W6 [.int .i64 0, .slice A1 2 c1, .slice A2 2 c2, .slice A3 2 c3, .int .i64 0] [copyR ((k : Int) + 1)] := by
        obtain ⟨_, _, _, he, o1, o2, o3⟩ := hr.low (show g + 1 + 1 ≤ wr.drew.heap.size by omega)
        injection he with he
        simp only [mcell, Array.mk.injEq, List.cons.injEq, and_true] at he
        obtain ⟨_, rfl, rfl, rfl, _⟩ := he
        exact MCells.one (OwnInts.ext o1 eA) (OwnInts.ext o2 eA) (OwnInts.ext o3 eA)
      clear hr hx z1 zD
      go_wp2_with (at_builtin; rw [← hW6]; refine wpList_append_own_at _ rfl _ _ 24 rfl (g + 1 + 1) 64 i0 (.agg #[.int .i64 0, .slice none 0 0, .slice none 0 0, .slice none 0 0, .int .i64 0]) 5 88 Tryz.underlying24 hi0 hz0 hz1 hz2 rfl (by decide) _ _ cl rfl ho6 ⟨w3.heap.size, 0, none⟩ 1 1 [.int .i64 0, .slice A1 2 c1, .slice A2 2 c2, .slice A3 2 c3, .int .i64 0] rfl rfl (World.news_of_block bN) ?c2 ?c3 ?c4 ?c5 ?_)
      case c2 => intro u hu; simp at hu; rcases hu with rfl | rfl | rfl | rfl | rfl <;> rfl
      case c3 => unfold maxLen; omega
      case c4 => omega
      case c5 => omega
      intro v' w7 hown7 hg7 _ _
      have hg7' : W6.grownBy w7 (Value.slice Av k cv).ownBlock := by first | exact hg7 | (rw [hW6]; exact hg7)
      have HS : OwnMR (g + 1 + 1) w7 v' (copyRs (k + 1)) := by
        rw [copyRs_succ]
        exact OwnMR.push (by rw [copyRs_len]; exact ho6) (hcl.ext hX6) hNL (by rw [copyRs_len]; rfl) hown7 hg7'
      obtain ⟨A7, c7, rfl, _, _, _⟩ := (ownsRow_row hown7).form
      obtain ⟨b7, st7⟩ := s6.step (by omega) (by omega) (by omega) HS hg7'
      have HST := Lib.hid st7
      have cb := b7.cell
      have cf := b7.frozen
      have sg := hg7'.size
      have HSZ : Hid (g + 1 + 1 ≤ (w7.setCell ⟨g + 1, 3, none⟩ (.slice A7 (k + 1) c7)).heap.size) := Lib.hid (by simp; omega)
      clear hW6 eA bN hX6 ho6 s6 hNL hown7 hg7 hg7' HS b7 st7 ho hcl st sg
      go_wp2_with fail
      go_roundw
      case rel => exact ⟨k + 1, _, by omega, by go_num, HST.out, HSZ.out⟩
      case measure => simp [intOf]; omega
    · obtain rfl : n = k + 1 := by omega
      obtain ⟨Rk, ck, rfl, _, _⟩ := st.own.form
      have HD := Lib.hid (st.done (by omega) (by omega))
      have hq0 := st.cur.cell 0
      have hq1 := st.cur.cell 1
      have hq2 := st.cur.cell 2
      have hq3 := st.cur.cell 3
      simp only [List.getElem?_toArray, List.getElem?_cons_zero, List.getElem?_cons_succ] at hq0 hq1 hq2 hq3
      have ob := st.out.cell
      have of_ := st.out.frozen
      generalize hLL : (copyRs k).length = nl at *
      clear st hLL
      go_wp2_with fail
      refine bodyPost_ret (v := .tuple #[.agg #[.int .i64 2, .int .i64 ((k + 1 : Nat) : Int), .int .i64 1, .slice Rk nl ck], .int .i64 0]) (by simp [results, Tryz.results42, go_sem, ob]) rfl ⟨⟨_, rfl, ?_⟩, (HD.out _ _ _ _).2⟩
      rw [show k + 1 - 1 = k from rfl]
      exact (HD.out _ _ _ _).1
end Go.Proofs.YtkbpchdncljlbaaGreatDoor
end
section
set_option linter.unusedVariables false
set_option linter.unusedSimpArgs false
namespace Go.Proofs.YtkbpchdncljlbaaGreatDoor
open Go Go.RowKit Go.Proofs
set_option maxHeartbeats 400000
def FlatS (v : Value) : Prop := v = .slice none 0 0 ∨ ∃ b off n c, v = .slice (some ⟨b, off, none⟩) n c
theorem OwnInts.flatS {base : Nat} {w : World} {v : Value} {zs : List Int} (h : OwnInts base w v zs) : FlatS v := by
  rcases h.2 with ⟨rfl, _⟩ | ⟨g, cap, cur, rfl, _⟩
  · exact .inl rfl
  · exact .inr ⟨g, 0, _, cap, rfl⟩
theorem run_append_ints (w : World) (base : Nat) (v u : Value) (xs news : List Int) (hown : OwnInts base w v xs) (hu : Ints w u news) (hf : FlatS u) (hl : xs.length + news.length ≤ 4194304) (hbase : base ≤ w.heap.size) :
    ∃ v' w', (Builtin.append_ #[48, 48] 48 #[v, u]).run Tryz.prog w = .ok v' w' ∧ OwnInts base w' v' (xs ++ news) ∧ w.grownBy w' v.ownBlock := by
  obtain ⟨i0, hi, hz0, hz1, hz2⟩ := info_parts intInfo
  obtain ⟨A, c, rfl, _, _⟩ := id hu.form
  rcases hf with hf | ⟨b, off, n, c', hf⟩
  · injection hf with e1 e2 e3
    subst e1 e3
    have hz : news = [] := List.length_eq_zero_iff.1 e2
    subst hz
    exact ⟨v, w, run_append_owned_none (P := Tryz.prog) (w := w) base 48 48 2 i0 1 Tryz.underlying48 hi v xs.length (ivs xs) hown, by simpa using hown, ⟨rfl, rfl, rfl, Nat.le_refl _, fun _ _ _ => rfl⟩⟩
  · injection hf with e1 e2 e3
    subst e1 e3
    have hc : ∀ j y, (ivs news)[j]? = some y → w.cell? ((⟨b, off, none⟩ : Addr).add j) = some y := by
      intro j y hj
      obtain ⟨hl, _⟩ := List.getElem?_eq_some_iff.1 hj
      rw [ivs_length] at hl
      obtain ⟨b', off', e', hc⟩ := hu.at hl
      cases e'
      have := hc j hl
      have e : y = .int .i64 news[j] := by
        have := ivs_get news j hl
        rw [hj] at this
        injection this
      by_cases hj0 : j = 0
      · subst hj0
        rw [e]
        first | (simp [Addr.add]; done) | (simpa [Addr.add] using hc 0 hl)
      · rw [e]
        first | (simp [Addr.add, hj0]; done) | (simpa [Addr.add, hj0] using this)
    have h1 : ∀ u ∈ ivs news, u.oneCell' = true := by
      intro u hu
      obtain ⟨z, _, rfl⟩ := List.mem_map.1 hu
      rfl
    obtain ⟨v', w', hr, h2, h3, _, _⟩ := run_append_own_at (P := Tryz.prog) w base 48 48 2 i0 (.int .i64 0) 1 8 Tryz.underlying48 hi hz0 hz1 hz2 rfl (by decide) v xs.length (ivs xs) hown ⟨b, off, none⟩ news.length c (ivs news) (by simp) hc h1 (by unfold maxLen; omega) (by omega) hbase
    exact ⟨v', w', hr, by unfold OwnInts; rw [ivs_append, List.length_append]; exact h2, h3⟩
end Go.Proofs.YtkbpchdncljlbaaGreatDoor
end
section
set_option linter.unusedVariables false
set_option linter.unusedSimpArgs false
namespace Go.Proofs.YtkbpchdncljlbaaGreatDoor
open Go Go.RowKit Go.Proofs
set_option maxHeartbeats 400000
theorem ints_tail {w : World} {b off c : Nat} {xs : List Int} (h : Ints w (.slice (some ⟨b, off, none⟩) xs.length c) xs) (h0 : 0 < xs.length) :
    Ints w (.slice (if c = 1 then some ⟨b, off, none⟩ else some ⟨b, off + 1, none⟩) (xs.length - 1) (c - 1)) (xs.drop 1) ∧ FlatS (.slice (if c = 1 then some ⟨b, off, none⟩ else some ⟨b, off + 1, none⟩) (xs.length - 1) (c - 1)) := by
  obtain ⟨_, _, e0, hc1, hc2⟩ := h.form
  injection e0 with e1 e2 e3
  subst e1 e3
  have hl : (xs.drop 1).length = xs.length - 1 := by simp
  by_cases hc : c = 1
  · rw [if_pos hc]
    refine ⟨⟨_, c - 1, by rw [hl], by omega, by omega, by simp, fun hp => ?_⟩, .inr ⟨_, _, _, _, rfl⟩⟩
    omega
  · rw [if_neg hc]
    refine ⟨⟨_, c - 1, by rw [hl], by omega, by omega, by simp, fun hp => ⟨b, off + 1, rfl, fun j hj => ?_⟩⟩, .inr ⟨_, _, _, _, rfl⟩⟩
    have hj' : j < (xs.drop 1).length := by simpa using hj
    obtain ⟨b', off', e', hcc⟩ := h.at (k := j + 1) (by omega)
    cases e'
    have := hcc (j + 1) (by omega)
    rw [ivs_get _ j hj']
    have e : (xs.drop 1)[j] = xs[j + 1] := by
      rw [List.getElem_drop]
      congr 1
      omega
    rw [e, Nat.add_assoc, Nat.add_comm 1 j]
    exact this
/-- What the switch of the reference's writing leaves. -/
structure TpCut (w : World) (g : Nat) (t : TapeD) (s mv : Int) (u v : Value) (wx : World) : Prop where
  ext : Ext w wx
  blk : Blk wx g 50 #[.slice none 0 0, .slice none 0 0]
  sides : ∃ ls rs, Ints wx u rs ∧ Ints wx v ls ∧ ls.length ≤ 2000 ∧ rs.length ≤ 2000 ∧ writeT t s mv = ⟨trim ls, trim rs⟩
set_option maxRecDepth 20000 in
set_option maxHeartbeats 4000000 in
theorem l06Tape_c (b o : Nat) (t : TapeD) (s mv : Int) (w : World) (h : TapP w b o t) (hl : t.l.length ≤ 1000) (hr : t.r.length ≤ 1000) :
    Calls Tryz.prog 105 #[.pointer (some ⟨b, o, none⟩), .int .i64 s, .int .i64 mv] w fun e w' => ∃ lv rv, e = .returned (.agg #[lv, rv]) ∧ OwnInts w.heap.size w' lv (writeT t s mv).l ∧ OwnInts w.heap.size w' rv (writeT t s mv).r ∧ Ext w w' := by
  obtain ⟨lv, rv, c0, c1, il, ir⟩ := h
  obtain ⟨A1, k1, rfl, _, _⟩ := id il.form
  obtain ⟨A2, k2, rfl, _, _⟩ := id ir.form
  have hbl := World.block_lt_of_cell? w _ c0
  obtain ⟨g, hg⟩ : ∃ g, w.heap.size = g := ⟨_, rfl⟩
  obtain ⟨V, hV⟩ : ∃ V, V = (w.alloc (.cells #[.slice none 0 0, .slice none 0 0] 50)).alloc (.cells #[.int .i64 s] 2) := ⟨_, rfl⟩
  have hX : Ext w V := by rw [hV]; exact (Ext.alloc _ _).trans (Ext.alloc _ _)
  have bO : Blk V g 50 #[.slice none 0 0, .slice none 0 0] := by rw [hV]; exact (Blk.new _ _ _ _ hg).alloc _
  have bS : Blk V (g + 1) 2 #[.int .i64 s] := by rw [hV]; exact Blk.new _ _ _ _ (by simp [hg])
  have own1 : OwnInts w.heap.size V (.slice (some ⟨g + 1, 0, none⟩) 1 1) [s] := ownsRow_blk 1 1 bS (by omega) rfl (by omega)
  have d0 := hX.cell c0
  have d1 := hX.cell c1
  simp only at hbl
  rw [hg] at hbl
  obtain ⟨rs, hrs⟩ : ∃ rs, writeR t s = rs := ⟨_, rfl⟩
  have hwl : rs.length ≤ 1001 := by rw [← hrs]; unfold writeR; simp; omega
  have hwp : 0 < rs.length := by rw [← hrs]; unfold writeR; simp
  have HWT : Hid (writeT t s mv = if mv = 1 then ⟨trim (s :: t.l), trim (rs.drop 1)⟩ else if mv = -1 then ⟨trim (t.l.drop 1), trim (t.l.getD 0 0 :: rs)⟩ else ⟨trim t.l, trim rs⟩) := by unfold Hid; rw [← hrs]; rfl
  go_enter Tryz.func105, Tryz.ntmps105
  go_upto_if 17 with fail
  try rw [← hV]
  try rw [hg]
  clear hV
  go_cut [7] (fun u wx => OwnInts w.heap.size wx u rs ∧ Blk wx g 50 #[.slice none 0 0, .slice none 0 0] ∧ Ext w wx)
  case first =>
    clear hwl hwp
    by_cases h0 : t.r.length = 0
    · have hz : t.r = [] := List.length_eq_zero_iff.1 h0
      have HR : Hid (OwnInts w.heap.size V (.slice (some ⟨g + 1, 0, none⟩) 1 1) rs) := by unfold Hid; rw [← hrs]; unfold writeR; rw [hz]; exact own1
      clear c0 d0 c1 hz own1 bS ir il hrs HWT
      generalize t.r.length = n at *
      subst h0
      go_wp2_with fail
      go_meet
      exact ⟨HR.out, bO, hX⟩
    · have hp : 0 < t.r.length := by omega
      obtain ⟨b2, o2, hA2, hcx⟩ := ir.at hp
      subst hA2
      clear hcx
      obtain ⟨it, ft⟩ := ints_tail (ir.ext hX) hp
      have hrs' : [s] ++ t.r.drop 1 = rs := hrs
      by_cases hk : k2 = 1
      · subst hk
        rw [if_pos rfl] at it ft
        have hn1 : t.r.length = 1 := by omega
        simp only [hn1, Nat.sub_self] at it ft
        obtain ⟨v7, w7, hr7, ho7, hg7⟩ := run_append_ints V w.heap.size _ _ [s] (t.r.drop 1) own1 it ft (by simp; omega) hX.size
        rw [hrs'] at ho7
        have bO7 := bO.kept hg7 (by intro e; simp [Value.ownBlock] at e)
        have hX7 : Ext w w7 := hX.grown hg7 (fun q hq => by simp [Value.ownBlock] at hq; omega)
        obtain ⟨A7, c7, rfl, _, _⟩ := id ho7.ints.form
        have HR := Lib.hid ho7
        clear c0 d0 own1 bS ir il it ft ho7 hg7 hrs hrs' HWT
        generalize t.r.length = n at *
        subst hn1
        go_wp2_with (at_builtin; refine Lib.wpList_append_run_sl V rfl _ _ 48 rfl _ _ rfl rfl hr7 ?_)
        go_meet
        exact ⟨HR.out, bO7, hX7⟩
      · rw [if_neg hk] at it ft
        obtain ⟨v7, w7, hr7, ho7, hg7⟩ := run_append_ints V w.heap.size _ _ [s] (t.r.drop 1) own1 it ft (by simp; omega) hX.size
        rw [hrs'] at ho7
        have bO7 := bO.kept hg7 (by intro e; simp [Value.ownBlock] at e)
        have hX7 : Ext w w7 := hX.grown hg7 (fun q hq => by simp [Value.ownBlock] at hq; omega)
        have hk2 : 1 ≤ k2 := by omega
        obtain ⟨A7, c7, rfl, _, _⟩ := id ho7.ints.form
        have HR := Lib.hid ho7
        clear c0 d0 own1 bS ir il it ft ho7 hg7 hrs hrs' HWT
        generalize t.r.length = n at *
        go_wp2_with (at_builtin; refine Lib.wpList_append_run_sl V rfl _ _ 48 rfl _ _ rfl rfl hr7 ?_)
        go_meet
        exact ⟨HR.out, bO7, hX7⟩
  case rest =>
    obtain ⟨ho7, bO7, hX7⟩ := hcut
    rename World => wc
    obtain ⟨A7, c7, rfl, _, _⟩ := id ho7.ints.form
    have e0 := hX7.cell c0
    have LO := l00OwnA_c _ t.l wc (il.ext hX7) (by omega)
    clear own1 bS bO hX d0 d1 hrs
    go_upto_block 0 with fail
    refine LO.mono ?_
    rintro e wd ⟨u8, rfl, ho8, hx8⟩
    obtain ⟨A8, c8, rfl, _, _⟩ := id ho8.ints.form
    go_upto_block 0 with fail
    have bO8 := bO7.ext hx8
    have hX8 := hX7.trans hx8
    have i7 := ho7.ints.ext hx8
    have ho7' := OwnInts.ext ho7 hx8
    have i8 := ho8.ints
    have s7 := hX7.size
    have s8 := hX8.size
    have f8 := ho8.flatS
    have f7 := ho7.flatS
    go_cut [7, 8] (fun u v wx => TpCut w g t s mv u v wx)
    case first =>
      clear il ir c0 c1 LO e0 bO7 hX7 ho7 hx8
      by_cases hm1 : mv = 1
      · subst hm1
        have HWa := HWT.out
        rw [if_pos rfl] at HWa
        have HWb := Lib.hid HWa
        clear HWa HWT
        obtain ⟨X, hXX⟩ : ∃ X, X = wd.alloc (.cells #[.int .i64 s] 2) := ⟨_, rfl⟩
        have eX : Ext wd X := by rw [hXX]; exact Ext.alloc _ _
        have bX : Blk X wd.heap.size 2 #[.int .i64 s] := by rw [hXX]; exact Blk.new _ _ _ _ rfl
        have ownX : OwnInts w.heap.size X (.slice (some ⟨wd.heap.size, 0, none⟩) 1 1) [s] := ownsRow_blk 1 1 bX s8 rfl (by omega)
        obtain ⟨v9, w9, hr9, ho9, hg9⟩ := run_append_ints X w.heap.size _ _ [s] t.l ownX (i8.ext eX) f8 (by simp; omega) (Nat.le_trans s8 eX.size)
        have e9 : Ext wd w9 := eX.grown hg9 (fun q hq => by simp [Value.ownBlock] at hq; omega)
        obtain ⟨g7, o7, hA7, hcx⟩ := i7.at hwp
        subst hA7
        clear hcx
        obtain ⟨it, _⟩ := ints_tail (i7.ext e9) hwp
        have hX9 := hX8.trans e9
        have bO9 := bO8.ext e9
        have i9 := ho9.ints
        have hld : (rs.drop 1).length ≤ 2000 := by simp; omega
        have hll : ([s] ++ t.l).length ≤ 2000 := by simp; omega
        have HWb' : Hid (writeT t s 1 = ⟨trim ([s] ++ t.l), trim (rs.drop 1)⟩) := HWb
        obtain ⟨ls9, hls9⟩ : ∃ l, [s] ++ t.l = l := ⟨_, rfl⟩
        rw [hls9] at i9 hll HWb'
        clear hls9
        have HC : Hid (∀ u, Ints w9 u (rs.drop 1) → TpCut w g t s 1 u v9 w9) := Lib.hid fun u hu => ⟨hX9, bO9, _, _, hu, i9, hll, hld, HWb'.out⟩
        obtain ⟨A9, c9, rfl, _, _⟩ := id i9.form
        have h7c : 1 ≤ c7 := by omega
        by_cases hk : c7 = 1
        · subst hk
          rw [if_pos rfl] at it
          have hn1 : rs.length = 1 := by omega
          simp only [hn1, Nat.sub_self] at it
          have HD := Lib.hid (HC.out _ it)
          clear HC it i9 bO9 hX9 e9 ho9 hg9 ownX bX eX i7 i8 ho7' f8 f7 bO8 hX8 ho8 hld hll
          go_wp2_with (at_builtin; rw [← hXX]; refine Lib.wpList_append_run_sl X rfl _ _ 48 rfl _ _ rfl rfl hr9 ?_)
          go_meet
          exact HD.out
        · rw [if_neg hk] at it
          have HD := Lib.hid (HC.out _ it)
          clear HC it i9 bO9 hX9 e9 ho9 hg9 ownX bX eX i7 i8 ho7' f8 f7 bO8 hX8 ho8 hld hll
          go_wp2_with (at_builtin; rw [← hXX]; refine Lib.wpList_append_run_sl X rfl _ _ 48 rfl _ _ rfl rfl hr9 ?_)
          go_meet
          exact HD.out
      · by_cases hm2 : mv = -1
        · subst hm2
          have HWa := HWT.out
          rw [if_neg hm1, if_pos rfl] at HWa
          have HWb := Lib.hid HWa
          clear HWa HWT hm1
          have key : ∀ x : Int, ∃ v9 w9, (Builtin.append_ #[48, 48] 48 #[.slice (some ⟨wd.heap.size, 0, none⟩) 1 1, .slice A7 rs.length c7]).run Tryz.prog (wd.alloc (.cells #[.int .i64 x] 2)) = .ok v9 w9 ∧ (∃ A9 c9, v9 = .slice A9 (rs.length + 1) c9) ∧ Ints w9 v9 (x :: rs) ∧ Ext wd w9 := by
            intro x
            have eX : Ext wd (wd.alloc (.cells #[.int .i64 x] 2)) := Ext.alloc _ _
            have bX : Blk (wd.alloc (.cells #[.int .i64 x] 2)) wd.heap.size 2 #[.int .i64 x] := Blk.new _ _ _ _ rfl
            have ownX : OwnInts w.heap.size (wd.alloc (.cells #[.int .i64 x] 2)) (.slice (some ⟨wd.heap.size, 0, none⟩) 1 1) [x] := ownsRow_blk 1 1 bX s8 rfl (by omega)
            obtain ⟨v9, w9, hr9, ho9, hg9⟩ := run_append_ints _ w.heap.size _ _ [x] rs ownX (i7.ext eX) f7 (by simp; omega) (Nat.le_trans s8 eX.size)
            exact ⟨v9, w9, hr9, by obtain ⟨A9, c9, e, _, _⟩ := ho9.ints.form; exact ⟨A9, c9, by rw [e]; rfl⟩, ho9.ints, eX.grown hg9 (fun q hq => by simp [Value.ownBlock] at hq; omega)⟩
          by_cases h0 : t.l.length = 0
          · have hz : t.l = [] := List.length_eq_zero_iff.1 h0
            obtain ⟨v9, w9, hr9, hf9, i9, e9⟩ := key 0
            have HC : Hid (TpCut w g t s (-1) v9 (.slice A8 0 c8) w9) := by
              refine ⟨hX8.trans e9, bO8.ext e9, [], 0 :: rs, i9, ?_, by simp, by simp; omega, ?_⟩
              · have := i8.ext e9
                rw [hz] at this
                exact this
              · rw [HWb.out, hz]
                rfl
            obtain ⟨A9, c9, rfl⟩ := hf9
            clear i9 e9 key i7 i8 ho7' f8 f7 bO8 hX8 ho8 HWb hz
            generalize t.l.length = n at *
            subst h0
            go_wp2_with (at_builtin; refine Lib.wpList_append_run_sl _ rfl _ _ 48 rfl _ _ rfl rfl hr9 ?_)
            go_meet
            exact HC.out
          · have hp : 0 < t.l.length := by omega
            obtain ⟨b8, o8, hA8, hcx⟩ := i8.at hp
            subst hA8
            have x0 := hcx 0 hp
            rw [Nat.add_zero] at x0
            clear hcx
            have HX0 : Hid (t.l.getD 0 0 = t.l[0]) := by unfold Hid; rw [List.getD_eq_getElem?_getD, List.getElem?_eq_getElem hp]; rfl
            obtain ⟨x, hx0⟩ : ∃ x, t.l[0] = x := ⟨_, rfl⟩
            rw [hx0] at x0 HX0
            obtain ⟨v9, w9, hr9, hf9, i9, e9⟩ := key x
            obtain ⟨it, _⟩ := ints_tail (i8.ext e9) hp
            have HC : Hid (∀ u, Ints w9 u (t.l.drop 1) → TpCut w g t s (-1) v9 u w9) := Lib.hid fun u hu =>
              ⟨hX8.trans e9, bO8.ext e9, t.l.drop 1, x :: rs, i9, hu, by simp; omega, by simp; omega, by rw [HWb.out, HX0.out]⟩
            obtain ⟨A9, c9, rfl⟩ := hf9
            have h8c : 1 ≤ c8 := by omega
            by_cases hk : c8 = 1
            · subst hk
              rw [if_pos rfl] at it
              have hn1 : t.l.length = 1 := by omega
              simp only [hn1, Nat.sub_self] at it
              have HD := Lib.hid (HC.out _ it)
              clear i9 e9 key i7 i8 ho7' f8 f7 bO8 hX8 ho8 HWb HC it hx0
              generalize t.l.length = n at *
              subst hn1
              go_wp2_with (at_builtin; refine Lib.wpList_append_run_sl _ rfl _ _ 48 rfl _ _ rfl rfl hr9 ?_)
              go_meet
              exact HD.out
            · rw [if_neg hk] at it
              have HD := Lib.hid (HC.out _ it)
              clear i9 e9 key i7 i8 ho7' f8 f7 bO8 hX8 ho8 HWb HC it hx0
              generalize t.l.length = n at *
              go_wp2_with (at_builtin; refine Lib.wpList_append_run_sl _ rfl _ _ 48 rfl _ _ rfl rfl hr9 ?_)
              go_meet
              exact HD.out
        · have HWa := HWT.out
          rw [if_neg hm1, if_neg hm2] at HWa
          have hb1 : (mv == 1) = false := by simp [hm1]
          have hb2 : (mv == -1) = false := by simp [hm2]
          have HC : Hid (TpCut w g t s mv (.slice A7 rs.length c7) (.slice A8 t.l.length c8) wd) := ⟨hX8, bO8, _, _, i7, i8, by omega, by omega, HWa⟩
          clear HWa HWT hm1 hm2
          go_wp2_with fail
          go_meet
          exact HC.out
    case rest =>
      obtain ⟨hXc, bOc, ls, rz, ir, il, l1, l2, hW⟩ := hcut
      rename World => wx
      have HW := Lib.hid hW
      have LT := l06Trim_c _ ls wx il (by omega)
      obtain ⟨B1, d1, rfl, _, _⟩ := id il.form
      obtain ⟨B2, d2, rfl, _, _⟩ := id ir.form
      go_wp2_with fail
      refine LT.mono ?_
      rintro e wy ⟨u1, rfl, p1, hx1⟩
      have RT := l06Trim_c _ rz wy (ir.ext hx1) (by omega)
      obtain ⟨C1, f1, rfl, _, _⟩ := id p1.ints.form
      go_wp2_with fail
      refine RT.mono ?_
      rintro e wz ⟨u2, rfl, p2, hx2⟩
      obtain ⟨C2, f2, rfl, _, _⟩ := id p2.ints.form
      have bOz := (bOc.ext hx1).ext hx2
      have ob := bOz.cell
      have of_ := bOz.frozen
      have sx := hXc.size
      have sy := hx1.size
      have p1' := OwnInts.ext p1 hx2
      have n1 : ∀ q, (Value.slice C1 (trim ls).length f1).ownBlock = some q → q ≠ g := fun q hq e => by
        subst e
        exact blk_ne_row bOz p1' (by decide) hq.symm
      have n2 : ∀ q, (Value.slice C2 (trim rz).length f2).ownBlock = some q → q ≠ g := fun q hq e => by
        subst e
        exact blk_ne_row bOz p2 (by decide) hq.symm
      have HA : Hid (∀ a b, OwnInts w.heap.size ((wz.setCell ⟨g, 0, none⟩ a).setCell ⟨g, 1, none⟩ b) (.slice C1 (trim ls).length f1) (trim ls)) := Lib.hid fun a b => ownsRow_far (ownsRow_far (ownsRow_base p1' sx) n1 _) n1 _
      have HB : Hid (∀ a b, OwnInts w.heap.size ((wz.setCell ⟨g, 0, none⟩ a).setCell ⟨g, 1, none⟩ b) (.slice C2 (trim rz).length f2) (trim rz)) := Lib.hid fun a b => ownsRow_far (ownsRow_far (ownsRow_base p2 (Nat.le_trans sx sy)) n2 _) n2 _
      have HE : Hid (∀ a b, Ext w ((wz.setCell ⟨g, 0, none⟩ a).setCell ⟨g, 1, none⟩ b)) := Lib.hid fun a b => (((hXc.trans hx1).trans hx2).setCell (p := ⟨g, 0, none⟩) (by show w.heap.size ≤ g; omega) a).setCell (p := ⟨g, 1, none⟩) (by show w.heap.size ≤ g; omega) b
      obtain ⟨m1, hm1⟩ : ∃ m, (trim ls).length = m := ⟨_, rfl⟩
      obtain ⟨m2, hm2⟩ : ∃ m, (trim rz).length = m := ⟨_, rfl⟩
      rw [hm1] at HA ⊢
      rw [hm2] at HB ⊢
      clear p1 p2 p1' n1 n2 hm1 hm2 hW LT RT bOc bOz hXc hx1 hx2
      go_wp2_with fail
      exact bodyPost_ret (v := .agg #[.slice C1 m1 f1, .slice C2 m2 f2]) (by simp [results, Tryz.results105, go_sem, ob]) rfl ⟨_, _, rfl, by rw [HW.out]; exact HA.out _ _, by rw [HW.out]; exact HB.out _ _, HE.out _ _⟩
end Go.Proofs.YtkbpchdncljlbaaGreatDoor
end
