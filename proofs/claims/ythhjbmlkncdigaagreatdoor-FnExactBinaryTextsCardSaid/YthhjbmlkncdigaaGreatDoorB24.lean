/- Contract of the program's reading of a bit, by the machine with two symbols.
Contract of what the program's machine with two symbols does in all its places.
A made map to numbers, as a function on what its keys stand for: what a look-up answers and what a store leaves. No condition. -/
import Derived.Test.YthhjbmlkncdigaaGreatDoorB23
import Derived.Test.YthhjbmlkncdigaaGreatDoorB01
import Derived.Maps.Own
import Derived.Maps.OwnSet
import Derived.Maps.Keyed
import Derived.Maps.Views
import Derived.DeepKeys4
section
set_option linter.unusedSimpArgs false
set_option linter.unusedVariables false
namespace Go.Proofs.YthhjbmlkncdigaaGreatDoor
open Go Go.RowKit Go.Proofs
set_option maxHeartbeats 400000
set_option maxRecDepth 20000 in
set_option maxHeartbeats 4000000 in
theorem readBit_c (mv : Value) (m : MachD) (p : BP) (v : Int) (w : World) (hm : Mach w mv m) (hok : machOk m = true) (hk : p.k = 0) (hp : BiOk m p) (v0 : 0 ≤ v) (v1 : v < 2) :
    Calls Tryz.prog 63 #[mv, .int .i64 (bitsD m.sy), p.v, .int .i64 v] w fun e w' => e = .returned (ActB (readB m p v)) ∧ Ext w w' := by
  obtain ⟨rv, rfl, hr⟩ := hm
  obtain ⟨A, c, rfl, h5, h5'⟩ := hr.form
  obtain ⟨s1, s2, s3, s4, hl⟩ := machOk_all hok
  have hl6 : m.rules.length ≤ 6000 := by have := (mul_bounds s1 s2 s3 s4).2; omega
  obtain ⟨k, a, b, cc⟩ := p
  simp only at hk
  subst hk
  have hpl : 0 ≤ a ∧ a < m.st ∧ 0 ≤ b ∧ b < bitsD m.sy ∧ 0 ≤ cc ∧ cc ≤ 3 := by
    rcases hp with ⟨_, a0, a1, b0, b1, c0, c1, _, _⟩ | ⟨h, _⟩ | ⟨h, _⟩
    · exact ⟨a0, a1, b0, b1, c0, c1⟩
    · cases h
    · cases h
  clear hp
  obtain ⟨a0, a1, b0, b1, cc0, cc1⟩ := hpl
  have hBr := bitsD_range m.sy
  obtain ⟨y, hy⟩ : ∃ y, 2 * cc + v = y := ⟨_, rfl⟩
  have HR : Hid (readB m ⟨0, a, b, cc⟩ v = if b < bitsD m.sy - 1 then ⟨v, 1, ⟨0, a, b + 1, y⟩, false⟩ else if y < m.sy then
    if ruleB m (a * m.sy + y) = noR then noB
    else if bitsD m.sy = 1 then ⟨(ruleB m (a * m.sy + y)).w, (ruleB m (a * m.sy + y)).m, ⟨0, (ruleB m (a * m.sy + y)).n, 0, 0⟩, false⟩
    else ⟨bitD (ruleB m (a * m.sy + y)).w (bitsD m.sy) (bitsD m.sy - 1), -1, ⟨1, a * m.sy + y, bitsD m.sy - 2, 0⟩, false⟩
  else noB) := by unfold Hid readB; rw [← hy]
  generalize hB : bitsD m.sy = B at *
  clear hB
  have hq : 0 ≤ a * m.sy ∧ a * m.sy ≤ 6000 := ⟨Int.mul_nonneg a0 (by omega), by have := Int.mul_le_mul (by omega : a ≤ 1000) s2 (by omega) (by omega); omega⟩
  have hw1 : w.heap.size ≤ w.heap.size + 1 + 1 := by omega
  have hxx := (((Ext.alloc w (.cells #[.int .i64 m.sy, .int .i64 m.st, .slice A m.rules.length c] 35)).trans (Ext.alloc _ (.cells #[.int .i64 0, .int .i64 a, .int .i64 b, .int .i64 cc] 80))).trans (Ext.alloc _ (.cells #[.int .i64 0, .int .i64 0, .int .i64 0, .int .i64 0, .int .i64 0, .int .i64 0, .bool false] 108)))
  obtain ⟨W, hW⟩ : ∃ W, W = ((w.alloc (.cells #[.int .i64 m.sy, .int .i64 m.st, .slice A m.rules.length c] 35)).alloc (.cells #[.int .i64 0, .int .i64 a, .int .i64 b, .int .i64 cc] 80)).alloc (.cells #[.int .i64 0, .int .i64 0, .int .i64 0, .int .i64 0, .int .i64 0, .int .i64 0, .bool false] 108) := ⟨_, rfl⟩
  have hXW : Ext w W := by rw [hW]; exact hxx
  have bM : Blk W w.heap.size 35 #[.int .i64 m.sy, .int .i64 m.st, .slice A m.rules.length c] := by rw [hW]; exact ((Blk.new _ _ _ _ rfl).alloc _).alloc _
  have bZ : Blk W (w.heap.size + 1 + 1) 108 #[.int .i64 0, .int .i64 0, .int .i64 0, .int .i64 0, .int .i64 0, .int .i64 0, .bool false] := by rw [hW]; exact Blk.new _ _ _ _ (by simp)
  simp only [BP.v]
  by_cases h1 : b < B - 1
  · have HE : Hid (readB m ⟨0, a, b, cc⟩ v = ⟨v, 1, ⟨0, a, b + 1, y⟩, false⟩) := by unfold Hid; rw [HR.out, if_pos h1]
    clear HR
    go_enter Tryz.func63, Tryz.ntmps63
    go_wp2
    refine bodyPost_ret (v := ActB ⟨v, 1, ⟨0, a, b + 1, y⟩, false⟩) (by simp [results, Tryz.results63, go_sem, ActB]) rfl ?_
    exact ⟨by rw [HE.out], ((Ext.alloc _ _).trans (Ext.alloc _ _)).trans (Ext.alloc _ _)⟩
  · by_cases h2 : y < m.sy
    · obtain ⟨j, hj1, hj2⟩ := ruleIx s1 s2 hl a0 a1 (by omega : 0 ≤ y) h2
      have e0 : ruleB m (a * m.sy + y) = m.rules[j] := by
        unfold ruleB
        rw [hj1, List.getD_eq_getElem?_getD, Int.toNat_natCast, List.getElem?_eq_getElem hj2]; rfl
      have hR : Hid (m.rules[j] ≠ noR → 0 ≤ m.rules[j].w ∧ m.rules[j].w ≤ 5) := by
        unfold Hid
        intro hne
        have := (RuB.ok hok (a := (j : Int)) ⟨by omega, by omega, by unfold ruleB; rw [List.getD_eq_getElem?_getD, Int.toNat_natCast, List.getElem?_eq_getElem hj2]; exact hne⟩).1
        have e1 : ruleB m (j : Int) = m.rules[j] := by unfold ruleB; rw [List.getD_eq_getElem?_getD, Int.toNat_natCast, List.getElem?_eq_getElem hj2]; rfl
        rw [e1] at this
        omega
      obtain ⟨g, off, rfl, hc⟩ := hr.at hj2
      obtain ⟨c0, c1, c2⟩ := hc j hj2
      rw [e0, hj1] at HR
      have HD := Lib.hid (HR.out.trans (if_neg h1))
      rw [if_pos h2] at HD
      generalize hrk : m.rules[j] = r at *
      obtain ⟨rw_, rm, rn⟩ := r
      simp only at c0 c1 c2 HD hR
      clear hrk e0 hc HR
      have k0 := hxx.cell c0
      have k1 := hxx.cell c1
      have k2 := hxx.cell c2
      have c0 := hXW.cell c0
      have c1 := hXW.cell c1
      have c2 := hXW.cell c2
      go_enter Tryz.func63, Tryz.ntmps63
      go_wp2_with fail
      try rw [← hW]
      clear hW k0 k1 k2 hxx
      refine (isRule_c _ _ _ _).mono ?_
      rintro e w1 ⟨rfl, hx1⟩
      have hX := hXW.trans hx1
      have z0 := (bZ.ext hx1).cell
      have z1 := (bZ.ext hx1).frozen
      have c0 := hx1.cell c0
      have c1 := hx1.cell c1
      have c2 := hx1.cell c2
      have m2 := (bM.ext hx1).cell 2
      simp only [List.getElem?_toArray, List.getElem?_cons_zero, List.getElem?_cons_succ] at m2
      by_cases hn : (⟨rw_, rm, rn⟩ : RuleD) = noR
      · have hi : isR ⟨rw_, rm, rn⟩ = false := by simp [isR, rEq, hn]
        have HE : Hid (readB m ⟨0, a, b, cc⟩ v = noB) := by unfold Hid; rw [HD.out, if_pos hn]
        rw [hi]
        clear hn hi HD
        go_wp2
        refine bodyPost_ret (v := ActB noB) (by simp [results, Tryz.results63, go_sem, z0, ActB, noB]) rfl ?_
        exact ⟨by rw [HE.out], by repeat (first | with_reducible exact hX | refine Ext.setCell ?_ hw1 _)⟩
      · have hi : isR ⟨rw_, rm, rn⟩ = true := by simp [isR, rEq, hn]
        have hr5 := hR.out hn
        rw [hi]
        by_cases h3 : B = 1
        · subst h3
          have HE : Hid (readB m ⟨0, a, b, cc⟩ v = ⟨rw_, rm, ⟨0, rn, 0, 0⟩, false⟩) := by unfold Hid; rw [HD.out, if_neg hn, if_pos rfl]
          clear hn hi HD
          obtain ⟨V, hV⟩ : ∃ V, V = w1.alloc (.cells #[.int .i64 rw_, .int .i64 rm, .int .i64 rn] 98) := ⟨_, rfl⟩
          have hXV : Ext w1 V := by rw [hV]; exact Ext.alloc _ _
          have bR : Blk V w1.heap.size 98 #[.int .i64 rw_, .int .i64 rm, .int .i64 rn] := by rw [hV]; exact Blk.new _ _ _ _ rfl
          have hEV := hX.trans hXV
          have bZV := (bZ.ext hx1).ext hXV
          have q0 := bR.cell 0
          have q1 := bR.cell 1
          have q2 := bR.cell 2
          simp only [List.getElem?_toArray, List.getElem?_cons_zero, List.getElem?_cons_succ] at q0 q1 q2
          clear z0 z1
          go_wp2_with fail
          rw [← hV]
          clear hV c0 c1 c2 m2
          refine wp_region_ordT 8 (readsT [0, 1, 2, 3, 4, 5] (.stir 6 (readsT [7] .done))) (by kernel_rfl) (by kernel_rfl) (fun _ _ _ _ _ h => h) ?_
          simp only [readsT]
          iterate 6 (refine wpOrdT_read (v := ?_) (by rfl) (Or.inl ⟨by rfl, fun x hx => ?_⟩) ?_; rotate_left; (· have a0 := hx.cell q0; have a1 := hx.cell q1; have a2 := hx.cell q2; go_simp; try with_reducible rfl); try simp only [Act.put, List.setIfInBounds_toArray, List.set_cons_zero, List.set_cons_succ])
          refine wpOrdT_keep (by rfl) (fun K hK => ?_)
          go_simp
          go_at_call 34
          refine (startOf_c _ _).mono ?_
          rintro e w6 ⟨rfl, hx6⟩
          refine hK _ _ hx6 ?_
          clear hK K
          simp only [BP.v]
          iterate 1 (refine wpOrdT_read (v := ?_) (by rfl) (Or.inl ⟨by rfl, fun x hx => ?_⟩) ?_; rotate_left; (· go_simp; try with_reducible rfl); try simp only [Act.put, List.setIfInBounds_toArray, List.set_cons_zero, List.set_cons_succ])
          refine wpOrdT_done ?_
          try simp only [List.drop_succ_cons, List.drop_zero]
          have hEV2 := hEV.trans ((Ext.drew V).trans hx6)
          have z0 := (bZV.ext ((Ext.drew V).trans hx6)).cell
          have z1 := (bZV.ext ((Ext.drew V).trans hx6)).frozen
          go_wp2
          refine bodyPost_ret (v := ActB ⟨rw_, rm, ⟨0, rn, 0, 0⟩, false⟩) (by simp [results, Tryz.results63, go_sem, z0, ActB]) rfl ?_
          exact ⟨by rw [HE.out], by repeat (first | with_reducible exact hEV2 | refine Ext.setCell ?_ hw1 _)⟩
        · have HE : Hid (readB m ⟨0, a, b, cc⟩ v = ⟨bitD rw_ B (B - 1), -1, ⟨1, j, B - 2, 0⟩, false⟩) := by unfold Hid; rw [HD.out, if_neg hn, if_neg h3]
          clear hn hi HD
          have BA := fun w => bitAt_c rw_ B (B - 1) w (by omega) (by omega) (by omega) (by omega) hr5.1 (by omega)
          have hXA := hX.trans (Ext.alloc w1 (.cells #[.int .i64 rw_, .int .i64 rm, .int .i64 rn] 98))
          have z0 := ((bZ.ext hx1).alloc (.cells #[.int .i64 rw_, .int .i64 rm, .int .i64 rn] 98)).cell
          have z1 := ((bZ.ext hx1).alloc (.cells #[.int .i64 rw_, .int .i64 rm, .int .i64 rn] 98)).frozen
          go_wp2_with fail
          refine (BA _).mono ?_
          rintro e w' ⟨rfl, rfl⟩
          generalize bitD rw_ B (B - 1) = bb at *
          go_wp2
          refine bodyPost_ret (v := ActB ⟨bb, -1, ⟨1, j, B - 2, 0⟩, false⟩) (by simp [results, Tryz.results63, go_sem, z0, ActB]) rfl ?_
          exact ⟨by rw [HE.out], by repeat (first | with_reducible exact hXA | refine Ext.setCell ?_ hw1 _)⟩
    · have HE : Hid (readB m ⟨0, a, b, cc⟩ v = noB) := by unfold Hid; rw [HR.out, if_neg h1, if_neg h2]
      clear HR
      go_enter Tryz.func63, Tryz.ntmps63
      go_wp2
      refine bodyPost_ret (v := ActB noB) (by simp [results, Tryz.results63, go_sem, ActB, noB]) rfl ?_
      exact ⟨by rw [HE.out], ((Ext.alloc _ _).trans (Ext.alloc _ _)).trans (Ext.alloc _ _)⟩
end Go.Proofs.YthhjbmlkncdigaaGreatDoor
end
section
set_option linter.unusedSimpArgs false
set_option linter.unusedVariables false
namespace Go.Proofs.YthhjbmlkncdigaaGreatDoor
open Go Go.RowKit Go.Proofs
set_option maxHeartbeats 400000
/-- The bits of the machine behind a pointer, and the machine. -/
structure BinAt (w : World) (b gb : Nat) (m : MachD) : Prop where
  mach : ∃ rv, Blk w b 35 #[.int .i64 m.sy, .int .i64 m.st, rv] ∧ Rules w rv m.rules
  bits : Blk w gb 2 #[.int .i64 (bitsD m.sy)]
theorem BinAt.ext {w w' : World} {b gb : Nat} {m : MachD} (h : BinAt w b gb m) (he : Ext w w') : BinAt w' b gb m :=
  ⟨by obtain ⟨rv, h1, h2⟩ := h.mach; exact ⟨rv, h1.ext he, h2.ext he⟩, h.bits.ext he⟩
set_option maxRecDepth 20000 in
set_option maxHeartbeats 4000000 in
theorem binAct_c (b gb : Nat) (m : MachD) (p : BP) (v : Int) (w : World) (h : BinAt w b gb m) (hok : machOk m = true) (hp : BiOk m p) (v0 : 0 ≤ v) (v1 : v < 2) :
    Calls Tryz.prog 62 #[p.v, .int .i64 v, .pointer (some ⟨b, 0, none⟩), .pointer (some ⟨gb, 0, none⟩)] w fun e w' => e = .returned (ActB (actB m p v)) ∧ Ext w w' := by
  obtain ⟨⟨rv, hM, hr⟩, hG⟩ := h
  obtain ⟨A, c, rfl, h5, h5'⟩ := hr.form
  obtain ⟨s1, s2, s3, s4, hl⟩ := machOk_all hok
  have hl6 : m.rules.length ≤ 6000 := by have := (mul_bounds s1 s2 s3 s4).2; omega
  have hBr := bitsD_range m.sy
  obtain ⟨k, a, b', cc⟩ := p
  have hxx := (Ext.alloc w (.cells #[.int .i64 k, .int .i64 a, .int .i64 b', .int .i64 cc] 80)).trans (Ext.alloc _ (.cells #[.int .i64 0, .int .i64 0, .int .i64 0, .int .i64 0, .int .i64 0, .int .i64 0, .bool false] 108))
  obtain ⟨W, hW⟩ : ∃ W, W = (w.alloc (.cells #[.int .i64 k, .int .i64 a, .int .i64 b', .int .i64 cc] 80)).alloc (.cells #[.int .i64 0, .int .i64 0, .int .i64 0, .int .i64 0, .int .i64 0, .int .i64 0, .bool false] 108) := ⟨_, rfl⟩
  have hXW : Ext w W := by rw [hW]; exact hxx
  have bP : Blk W w.heap.size 80 #[.int .i64 k, .int .i64 a, .int .i64 b', .int .i64 cc] := by rw [hW]; exact (Blk.new _ _ _ _ rfl).alloc _
  have bZ : Blk W (w.heap.size + 1) 108 #[.int .i64 0, .int .i64 0, .int .i64 0, .int .i64 0, .int .i64 0, .int .i64 0, .bool false] := by rw [hW]; exact Blk.new _ _ _ _ (by simp)
  have hw1 : w.heap.size ≤ w.heap.size + 1 := by omega
  have hMr : Mach W (.agg #[.int .i64 m.sy, .int .i64 m.st, .slice A m.rules.length c]) m := ⟨_, rfl, hr.ext hXW⟩
  simp only [BP.v]
  by_cases hk0 : k = 0
  · subst hk0
    have HE : Hid (actB m ⟨0, a, b', cc⟩ v = readB m ⟨0, a, b', cc⟩ v) := by unfold Hid; simp [actB]
    have m0 := (hM.ext hxx).cell 0
    have m1 := (hM.ext hxx).cell 1
    have m2 := (hM.ext hxx).cell 2
    have g0 := (hG.ext hxx).cell 0
    simp only [List.getElem?_toArray, List.getElem?_cons_zero, List.getElem?_cons_succ] at m0 m1 m2 g0
    have RB := readBit_c _ m ⟨0, a, b', cc⟩ v W hMr hok rfl hp v0 v1
    simp only [BP.v] at RB
    clear hp
    generalize bitsD m.sy = B at *
    go_enter Tryz.func62, Tryz.ntmps62
    go_wp2_with fail
    try rw [← hW]
    clear hW m0 m1 m2 g0 hxx
    refine RB.mono ?_
    rintro e w1 ⟨rfl, hx1⟩
    have z0 := (bZ.ext hx1).cell
    have z1 := (bZ.ext hx1).frozen
    have hX := hXW.trans hx1
    clear RB
    generalize readB m ⟨0, a, b', cc⟩ v = q at *
    simp only [ActB]
    go_wp2
    refine bodyPost_ret (v := ActB q) (by simp [results, Tryz.results62, go_sem, z0, ActB]) rfl ?_
    exact ⟨by rw [HE.out], by repeat (first | with_reducible exact hX | refine Ext.setCell ?_ hw1 _)⟩
  have hru : RuB m a := by
    rcases hp with ⟨h, _⟩ | ⟨_, h, _⟩ | ⟨_, h, _⟩
    · exact absurd h hk0
    · exact h
    · exact h
  obtain ⟨⟨rw0, rw1⟩, hrm, rn0, rn1⟩ := hru.ok hok
  have ra0 := hru.a0
  have ra1 := hru.a1
  obtain ⟨j, rfl⟩ : ∃ j : Nat, a = (j : Int) := ⟨a.toNat, by omega⟩
  have hj2 : j < m.rules.length := by omega
  have e0 : ruleB m (j : Int) = m.rules[j] := by
    unfold ruleB
    rw [List.getD_eq_getElem?_getD, Int.toNat_natCast, List.getElem?_eq_getElem hj2]; rfl
  obtain ⟨g, off, rfl, hc⟩ := hr.at hj2
  obtain ⟨c0, c1, c2⟩ := hc j hj2
  have HD : Hid (actB m ⟨k, j, b', cc⟩ v = if k = 1 then (if 0 < b' then ⟨bitD m.rules[j].w (bitsD m.sy) b', -1, ⟨1, j, b' - 1, 0⟩, false⟩
    else ⟨bitD m.rules[j].w (bitsD m.sy) b', m.rules[j].m, ⟨2, j, bitsD m.sy - 1, 0⟩, false⟩)
    else if b' = 1 then ⟨v, m.rules[j].m, ⟨0, m.rules[j].n, 0, 0⟩, false⟩ else ⟨v, m.rules[j].m, ⟨2, j, b' - 1, 0⟩, false⟩) := by
    unfold Hid actB; simp only [if_neg hk0, e0]
  have hpl : (k = 1 ∧ 0 ≤ b' ∧ b' ≤ bitsD m.sy - 2) ∨ (k = 2 ∧ 1 ≤ b' ∧ b' ≤ bitsD m.sy - 1) := by
    rcases hp with ⟨h, _⟩ | ⟨h, _, h1, h2, _⟩ | ⟨h, _, h1, h2, _⟩
    · exact absurd h hk0
    · exact .inl ⟨h, h1, h2⟩
    · exact .inr ⟨h, h1, h2⟩
  rw [e0] at rw0 rw1
  clear hrm rn0 rn1 hp hru ra0 ra1 hc e0
  generalize m.rules[j] = r at *
  obtain ⟨rw_, rm, rn⟩ := r
  simp only at c0 c1 c2 HD rw0 rw1
  have m2 := (hM.ext hxx).cell 2
  have g0 := (hG.ext hxx).cell 0
  simp only [List.getElem?_toArray, List.getElem?_cons_zero, List.getElem?_cons_succ] at m2 g0
  have k0 := hxx.cell c0
  have k1 := hxx.cell c1
  have k2 := hxx.cell c2
  generalize bitsD m.sy = B at *
  obtain ⟨V, hV⟩ : ∃ V, V = W.alloc (.cells #[.int .i64 rw_, .int .i64 rm, .int .i64 rn] 98) := ⟨_, rfl⟩
  have hXV : Ext W V := by rw [hV]; exact Ext.alloc _ _
  have hV' := hV
  rw [hW] at hV'
  have hEV := hXW.trans hXV
  have bZV := bZ.ext hXV
  have bPV := bP.ext hXV
  have bR : Blk V (w.heap.size + 1 + 1) 98 #[.int .i64 rw_, .int .i64 rm, .int .i64 rn] := by rw [hV]; exact Blk.new _ _ _ _ (by rw [hW]; simp)
  have gV := (hG.ext hEV).cell 0
  simp only [List.getElem?_toArray, List.getElem?_cons_zero, List.getElem?_cons_succ] at gV
  rcases hpl with ⟨rfl, p0, p1⟩ | ⟨rfl, p0, p1⟩
  · rw [if_pos rfl] at HD
    have BA := fun w => bitAt_c rw_ B b' w (by omega) (by omega) p0 (by omega) rw0 (by omega)
    go_enter Tryz.func62, Tryz.ntmps62
    rw [hV'] at gV
    go_wp2_with fail
    refine (BA _).mono ?_
    rintro e w' ⟨rfl, rfl⟩
    clear BA
    generalize bitD rw_ B b' = bb at *
    by_cases hb : 0 < b'
    · rw [if_pos hb] at HD
      go_wp2
      refine bodyPost_ret (v := ActB ⟨bb, -1, ⟨1, j, b' - 1, 0⟩, false⟩) (by simp [results, Tryz.results62, go_sem, ActB]) rfl ?_
      exact ⟨by rw [HD.out], ((Ext.alloc _ _).trans (Ext.alloc _ _)).trans (Ext.alloc _ _)⟩
    · rw [if_neg hb] at HD
      go_wp2
      refine bodyPost_ret (v := ActB ⟨bb, rm, ⟨2, j, B - 1, 0⟩, false⟩) (by simp [results, Tryz.results62, go_sem, ActB]) rfl ?_
      exact ⟨by rw [HD.out], ((Ext.alloc _ _).trans (Ext.alloc _ _)).trans (Ext.alloc _ _)⟩
  · rw [if_neg (by decide : ¬ (2 : Int) = 1)] at HD
    by_cases hb : b' = 1
    · rw [if_pos hb] at HD
      subst hb
      go_enter Tryz.func62, Tryz.ntmps62
      go_wp2_with fail
      refine (startOf_c _ _).mono ?_
      rintro e w1 ⟨rfl, hx1⟩
      rw [← hV'] at hx1
      have hXU : Ext V (V.alloc (.cells #[.int .i64 2, .int .i64 j, .int .i64 0, .int .i64 0] 80)) := Ext.alloc _ _
      have bQ : Blk (V.alloc (.cells #[.int .i64 2, .int .i64 j, .int .i64 0, .int .i64 0] 80)) (w.heap.size + 1 + 1 + 1) 80 #[.int .i64 2, .int .i64 j, .int .i64 0, .int .i64 0] := Blk.new _ _ _ _ (by rw [hV']; simp)
      have hX1 := hXU.trans hx1
      have bZ1 := bZV.ext hX1
      have bQ1 := bQ.ext hx1
      have bR1 := bR.ext hX1
      have hE1 := hEV.trans hX1
      have z0 := bZ1.cell
      have z1 := bZ1.frozen
      have y0 := bQ1.cell
      have y1 := bQ1.frozen
      have r1 := bR1.cell 1
      simp only [List.getElem?_toArray, List.getElem?_cons_zero, List.getElem?_cons_succ] at r1
      have hw2 : w.heap.size ≤ w.heap.size + 1 + 1 + 1 := by omega
      simp only [BP.v]
      go_wp2
      refine bodyPost_ret (v := ActB ⟨v, rm, ⟨0, rn, 0, 0⟩, false⟩) (by simp [results, Tryz.results62, go_sem, z0, ActB]) rfl ?_
      exact ⟨by rw [HD.out], by repeat (first | with_reducible exact hE1 | refine Ext.setCell ?_ hw1 _ | refine Ext.setCell ?_ hw2 _)⟩
    · rw [if_neg hb] at HD
      go_enter Tryz.func62, Tryz.ntmps62
      go_wp2
      refine bodyPost_ret (v := ActB ⟨v, rm, ⟨2, j, b' - 1, 0⟩, false⟩) (by simp [results, Tryz.results62, go_sem, ActB]) rfl ?_
      exact ⟨by rw [HD.out], (((Ext.alloc _ _).trans (Ext.alloc _ _)).trans (Ext.alloc _ _)).trans (Ext.alloc _ _)⟩
end Go.Proofs.YthhjbmlkncdigaaGreatDoor
end
section
namespace Go.Proofs.YthhjbmlkncdigaaGreatDoor
open Go Go.RowKit Go.Proofs Go.Maps
/-- A type of maps to numbers. -/
structure MapTy (P : Program) (t k e : TypeId) : Prop where
  keyed : Keyed P k
  und : P.underlying t = some (.map k e)
  el : P.underlying e = some (.int .i64)
  zero : ∀ w, (zeroValue e).run P w = .ok (.int .i64 0) w
section
variable {P : Program} {t k e : TypeId} {α : Type} {enc : α → Value} {w w' : World} {b n : Nat} {T T' : α → Option Int}
/-- The map in block b has T a at the key of a, in at most n entries. -/
def Tbl (P : Program) (k e : TypeId) (enc : α → Value) (w : World) (b n : Nat) (T : α → Option Int) : Prop :=
  ∃ D : DataW Unit, w.ownsMap P k (plainElem P e) b n D ∧ ∀ a l, keyOf P k (enc a) = some l → Maps.has D l = (T a).isSome ∧ D.atKey l (.lit (.int .i64 0)) = .lit (.int .i64 ((T a).getD 0))
theorem Tbl.made (P : Program) (k e : TypeId) (enc : α → Value) (w : World) : Tbl P k e enc (w.alloc (.map #[] 0)) w.heap.size 0 (fun _ => none) :=
  ⟨_, World.ownsMap_made _ _ _ _, fun _ _ _ => ⟨rfl, rfl⟩⟩
theorem Tbl.kept {row : Option Nat} (h : Tbl P k e enc w b n T) (hg : w.grownBy w' row) (hne : some b ≠ row) : Tbl P k e enc w' b n T := by
  obtain ⟨D, h1, h2⟩ := h
  exact ⟨D, h1.kept hg hne, h2⟩
theorem Tbl.ext (h : Tbl P k e enc w b n T) (he : Ext w w') : Tbl P k e enc w' b n T :=
  h.kept (row := none) ⟨he.os, he.tape, he.output, he.size, fun k hk _ => Below.block he k hk⟩ (by simp)
theorem Tbl.setCell (h : Tbl P k e enc w b n T) {a : Addr} (ha : b ≠ a.block) (u : Value) : Tbl P k e enc (w.setCell a u) b n T := by
  obtain ⟨D, h1, h2⟩ := h
  exact ⟨D, h1.setCell ha u, h2⟩
theorem Tbl.mono {n' : Nat} (h : Tbl P k e enc w b n T) (hn : n ≤ n') : Tbl P k e enc w b n' T := by
  obtain ⟨D, h1, h2⟩ := h
  exact ⟨D, h1.mono hn, h2⟩
theorem Tbl.lt (h : Tbl P k e enc w b n T) : b < w.heap.size := by
  obtain ⟨D, h1, _⟩ := h
  exact h1.lt
theorem Tbl.ne_row (h : Tbl P k e enc w b n T) {base : Nat} {e' : TypeId} {size : Nat} {v : Value} {m : Nat} {xs : List Value} (ho : w.ownsRow base e' size v m xs) : some b ≠ v.ownBlock := by
  obtain ⟨D, ⟨es, clock, hb, _⟩, _⟩ := h
  rcases ho.2 with ⟨rfl, _⟩ | ⟨g, cap, cur, rfl, _, hg, _⟩
  · simp [Value.ownBlock]
  · intro e
    have : b = g := by simpa [Value.ownBlock] using e
    subst this
    rw [hb] at hg
    cases hg
theorem Tbl.ne_blk (h : Tbl P k e enc w b n T) {g : Nat} {t' : TypeId} {cs : Array Value} (hg : Blk w g t' cs) : b ≠ g := by
  obtain ⟨D, ⟨es, clock, hb, _⟩, _⟩ := h
  rintro rfl
  unfold Blk at hg
  rw [hb] at hg
  cases hg
theorem lit_int_inj {a b : Int} (h : (DataW.lit (.int .i64 a) : DataW Unit) = .lit (.int .i64 b)) : a = b := by
  injection h with h
  injection h
theorem Tbl.lookup (h : Tbl P k e enc w b n T) (M : MapTy P t k e) (a : α) (hk : ∃ l, keyOf P k (enc a) = some l) :
    (Instr.lookup t (.map (some b)) (enc a) false).run P w = .ok (.int .i64 ((T a).getD 0)) w := by
  obtain ⟨D, h1, h2⟩ := h
  obtain ⟨l, hl⟩ := hk
  obtain ⟨c, hrun, hat, _⟩ := h1.lookup_int M.keyed M.und M.el (M.zero w) hl
  rw [(h2 a l hl).2] at hat
  rw [lit_int_inj hat]
  exact hrun
theorem Tbl.lookup2 (h : Tbl P k e enc w b n T) (M : MapTy P t k e) (a : α) (hk : ∃ l, keyOf P k (enc a) = some l) :
    (Instr.lookup t (.map (some b)) (enc a) true).run P w = .ok (.tuple #[.int .i64 ((T a).getD 0), .bool (T a).isSome]) w := by
  obtain ⟨D, h1, h2⟩ := h
  obtain ⟨l, hl⟩ := hk
  obtain ⟨v, ps, hrun, hv⟩ := h1.look_ok M.keyed M.und (M.zero w) (plainElem_int M.el (by decide)) hl
  obtain ⟨c, rfl, hc, _⟩ := plainElem_int_inv M.el hv
  have hc1 := congrArg Prod.fst hc
  simp only at hc1
  rw [(h2 a l hl).2] at hc1
  rw [(h2 a l hl).1, ← lit_int_inj hc1] at hrun
  exact hrun
theorem Tbl.update [DecidableEq α] (h : Tbl P k e enc w b n T) (M : MapTy P t k e) (hinj : ∀ x y, enc x = enc y → x = y) (hn : n < maxLen) (a : α) (hk : ∃ l, keyOf P k (enc a) = some l) (c : Int) (hc : (Lit.int .i64 c).wf = true) :
    ∃ w', (Instr.mapUpdate t (.map (some b)) (enc a) (.int .i64 c)).run P w = .ok () w' ∧ Tbl P k e enc w' b (n + 1) (fun x => if x = a then some c else T x) ∧ w.grownBy w' (some b) := by
  obtain ⟨D, h1, h2⟩ := h
  obtain ⟨l, hl⟩ := hk
  obtain ⟨w', hrun, h3, h4⟩ := h1.update M.keyed M.und hn hl (plainElem_int M.el hc)
  refine ⟨w', hrun, ⟨_, h3, fun x lx hx => ?_⟩, h4⟩
  by_cases e : x = a
  · subst e
    rw [hl] at hx
    injection hx with hx
    subst hx
    rw [has_put_same h1.isMap (M.keyed.key hl), atKey_put_same h1.isMap (M.keyed.key hl)]
    simp
  · have hne : lx ≠ l := fun e' => e (hinj _ _ (M.keyed.inj hx (e' ▸ hl)))
    rw [has_put_other hne, atKey_put_other hne]
    simp only [e, if_false]
    exact h2 x lx hx
end
end Go.Proofs.YthhjbmlkncdigaaGreatDoor
end
