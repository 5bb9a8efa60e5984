/- Contracts: slices.IndexFunc and ContainsFunc over lists, at a closure that answers by a plain predicate; whether lists are in order. Written by mkctc.py.
Contracts: whether lists have a length and small numbers.
Contract: whether lists are strictly rising. -/
import Derived.Test.YtapjofbjedpmgaaGreatC15
import Derived.Test.YtapjofbjedpmgaaGreatC16
import Derived.Test.YtapjofbjedpmgaaGreatC17
import Derived.Test.YtapjofbjedpmgaaGreatC09
import Derived.Test.YtapjofbjedpmgaaGreatC07
section
set_option linter.unusedSimpArgs false
set_option linter.unusedVariables false
namespace Go.Proofs.YtapjofbjedpmgaaGreat
open Go Go.RowKit Go.Proofs
set_option maxHeartbeats 400000
/-- What is asked of the closure. -/
def AnsC1 (w : World) (ga gb : Nat) (p : List Int → Bool) (xss : List (List Int)) : Prop := ∀ (W : World) (u : Value) (x : List Int), Ext w W → Ints W u x → Flat u → x ∈ xss → Calls Tryz.prog 97 (#[u] ++ #[.pointer (some ⟨ga, 0, none⟩), .pointer (some ⟨gb, 0, none⟩)]) W fun e W' => e = .returned (.bool (p x)) ∧ Ext W W'
theorem indexC1_c (ga gb : Nat) (v : Value) (xss : List (List Int)) (p : List Int → Bool) (w : World) (hu : Lists w v xss) (hp : AnsC1 w ga gb p xss) :
    Calls Tryz.prog 98 #[v, .func (.func 97) #[] #[.pointer (some ⟨ga, 0, none⟩), .pointer (some ⟨gb, 0, none⟩)]] w fun e w' => (∃ k : Int, e = .returned (.int .i64 k) ∧ decide (0 ≤ k) = xss.any p) ∧ Ext w w' := by
  obtain ⟨A, c, rfl, _, _⟩ := id hu.form
  go_enter Tryz.func98, Tryz.ntmps98
  go_wp2
  go_loopw [8] (fun i wr => ∃ k : Nat, k ≤ xss.length ∧ i = .int .i64 k ∧ Ext w wr ∧ Hid (∀ j, (h : j < xss.length) → j < k → p xss[j] = false)) (fun i _ => xss.length - (intOf i).toNat)
  case atStart => exact ⟨0, Nat.zero_le _, rfl, Ext.refl _, Lib.hid (fun j _ h => by omega)⟩
  case round =>
    obtain ⟨k, hk, rfl, hx, HA⟩ := hrel
    by_cases hlt : k < xss.length
    · obtain ⟨b', off, u, rfl, c0, i0, f0⟩ := (hu.ext hx).at hlt
      have CL := hp wr u xss[k] hx i0 f0 (List.getElem_mem _)
      obtain ⟨A1, d1, rfl, _, _⟩ := id i0.form
      obtain ⟨y, hy⟩ : ∃ y, p xss[k] = y := ⟨_, rfl⟩
      rw [hy] at CL
      have HY := Lib.hid hy
      have hlk : (k : Int) < (xss.length : Int) := by omega
      generalize xss[k].length = n1 at *
      clear hy i0 f0
      simp only [List.push_toArray, List.append_toArray, List.cons_append, List.nil_append] at CL
      go_wp2_with fail
      refine CL.mono ?_
      rintro e w2 ⟨rfl, hx2⟩
      have HX := Lib.hid (hx.trans hx2)
      clear CL hx2
      cases y with
      | true =>
        go_wp2
        go_ret
        exact ⟨⟨k, rfl, by rw [List.any_eq_true.2 ⟨xss[k], List.getElem_mem _, HY.out⟩]; simp⟩, HX.out⟩
      | false =>
        go_wp2
        go_roundw
        case rel => exact ⟨k + 1, by omega, by go_num, HX.out, Lib.hid (fun j h1 h2 => by
          by_cases e : j = k
          · subst e; exact HY.out
          · exact HA.out j h1 (by omega))⟩
        case measure => simp [intOf]; omega
    · go_wp2
      go_ret
      refine ⟨⟨-1, rfl, ?_⟩, hx⟩
      have e : xss.any p = false := by
        rw [List.any_eq_false]
        intro x hx'
        obtain ⟨j, hj, rfl⟩ := List.getElem_of_mem hx'
        rw [HA.out j hj (by omega)]
        decide
      rw [e]
      decide
theorem containsC1_c (ga gb : Nat) (v : Value) (xss : List (List Int)) (p : List Int → Bool) (w : World) (hu : Lists w v xss) (hp : AnsC1 w ga gb p xss) :
    Calls Tryz.prog 63 #[v, .func (.func 97) #[] #[.pointer (some ⟨ga, 0, none⟩), .pointer (some ⟨gb, 0, none⟩)]] w fun e w' => e = .returned (.bool (xss.any p)) ∧ Ext w w' := by
  go_enter Tryz.func63, Tryz.ntmps63
  go_wp2_with fail
  refine (indexC1_c ga gb v xss p _ hu hp).mono ?_
  rintro e w2 ⟨⟨k, rfl, hk⟩, hx2⟩
  have HK := Lib.hid hk
  clear hk
  go_wp2
  go_ret
  exact ⟨by simp [← HK.out], hx2⟩
end Go.Proofs.YtapjofbjedpmgaaGreat
end
section
set_option linter.unusedSimpArgs false
set_option linter.unusedVariables false
namespace Go.Proofs.YtapjofbjedpmgaaGreat
open Go Go.RowKit Go.Proofs
set_option maxHeartbeats 400000
/-- Whether a list has a length, and numbers up to a greatest one. -/
def listB (len : Nat) (gr : Int) (x : List Int) : Bool := decide (x.length = len) && x.all fun z => inB z 0 gr
theorem areLists1_c (u : Value) (x : List Int) (len : Nat) (gr : Int) (ga gb : Nat) (w : World) (h : Ints w u x) (ha : Blk w ga 3 #[.int .i64 (len : Int)]) (hb : Blk w gb 2 #[.int .i64 gr]) :
    Calls Tryz.prog 97 #[u, .pointer (some ⟨ga, 0, none⟩), .pointer (some ⟨gb, 0, none⟩)] w fun e w' => e = .returned (.bool (!listB len gr x)) ∧ Ext w w' := by
  obtain ⟨A, c, rfl, _, _⟩ := id h.form
  have a0 := ha.cell 0
  have b0 := hb.cell 0
  simp only [List.getElem?_toArray, List.getElem?_cons_zero] at a0 b0
  have AW := allWithin_c _ x 0 gr w h
  obtain ⟨y, hy⟩ : ∃ y, (x.all fun z => inB z 0 gr) = y := ⟨_, rfl⟩
  rw [hy] at AW
  have HY := Lib.hid hy
  clear hy ha hb
  go_enter Tryz.func97, Tryz.ntmps97
  by_cases hl : x.length = len
  · have hne : ((x.length : Int) != (len : Int)) = false := by simp [hl]
    have HL := Lib.hid hl
    clear hl
    go_wp2_with fail
    refine AW.mono ?_
    rintro e w2 ⟨rfl, hww⟩
    go_wp2
    go_ret
    exact ⟨by unfold listB; rw [HY.out]; simp [HL.out], by first | exact hww | (subst hww; exact Ext.refl _)⟩
  · have hne : ((x.length : Int) != (len : Int)) = true := by simp; omega
    have HL := Lib.hid hl
    clear hl
    go_wp2
    go_ret
    exact ⟨by unfold listB; simp [HL.out], Ext.refl _⟩
theorem areLists_c (v : Value) (xss : List (List Int)) (len : Nat) (gr : Int) (w : World) (h : Lists w v xss) :
    Calls Tryz.prog 62 #[v, .int .i64 (len : Int), .int .i64 gr] w fun e w' => e = .returned (.bool (xss.all (listB len gr))) ∧ Ext w w' := by
  obtain ⟨g, hg⟩ : ∃ g, w.heap.size = g := ⟨_, rfl⟩
  obtain ⟨W, hW⟩ : ∃ W, W = (w.alloc (.cells #[.int .i64 (len : Int)] 3)).alloc (.cells #[.int .i64 gr] 2) := ⟨_, rfl⟩
  have hX : Ext w W := by rw [hW]; exact (Ext.alloc _ _).trans (Ext.alloc _ _)
  have b1 : Blk W g 3 #[.int .i64 (len : Int)] := by rw [hW]; exact (Blk.new _ _ _ _ hg).alloc _
  have b2 : Blk W (g + 1) 2 #[.int .i64 gr] := by rw [hW]; exact Blk.new _ _ _ _ (by simp [hg])
  obtain ⟨A, c, rfl, _, _⟩ := id h.form
  have CC := containsC1_c g (g + 1) _ xss (fun x => !listB len gr x) W (h.ext hX) (fun W' u x hx hi hf hm => areLists1_c u x len gr g (g + 1) W' hi (b1.ext hx) (b2.ext hx))
  have HX := Lib.hid hX
  clear b1 b2 hX h
  go_enter Tryz.func62, Tryz.ntmps62
  go_wp2_with fail
  try rw [← hW]
  try rw [hg]
  clear hW hg
  refine CC.mono ?_
  rintro e w2 ⟨rfl, hx2⟩
  obtain ⟨y, hy⟩ : ∃ y, (xss.any fun x => !listB len gr x) = y := ⟨_, rfl⟩
  rw [hy]
  have HY : Hid ((!y) = xss.all (listB len gr)) := Lib.hid (by rw [← hy, List.not_any_eq_all_not]; simp)
  clear hy CC
  go_wp2
  go_ret
  exact ⟨by rw [← HY.out]; rfl, HX.out.trans hx2⟩
end Go.Proofs.YtapjofbjedpmgaaGreat
end
section
set_option linter.unusedSimpArgs false
set_option linter.unusedVariables false
namespace Go.Proofs.YtapjofbjedpmgaaGreat
open Go Go.RowKit Go.Proofs
set_option maxHeartbeats 400000
/-- Strictly rising lists. -/
def riseB (xss : List (List Int)) : Bool := (List.range (xss.length - 1)).all fun k => decide (cmpL (xss.getD k []) (xss.getD (k + 1) []) < 0)
set_option maxRecDepth 20000 in
set_option maxHeartbeats 4000000 in
theorem risingLists_c (v : Value) (xss : List (List Int)) (w : World) (h : Lists w v xss) :
    Calls Tryz.prog 113 #[v] w fun e w' => e = .returned (.bool (riseB xss)) ∧ Ext w w' := by
  obtain ⟨A, c, rfl, hc1, hc2⟩ := id h.form
  go_enter Tryz.func113, Tryz.ntmps113
  go_wp2_with fail
  go_loopw [3] (fun i wr => ∃ k : Nat, 1 ≤ k ∧ (k ≤ xss.length ∨ k = 1) ∧ i = .int .i64 (k : Int) ∧ Ext w wr ∧ Hid (∀ j, j + 1 < k → cmpL (xss.getD j []) (xss.getD (j + 1) []) < 0)) (fun i _ => xss.length - (intOf i).toNat)
  case atStart => exact ⟨1, Nat.le_refl _, .inr rfl, rfl, Ext.refl _, Lib.hid (fun j h => by omega)⟩
  case round =>
    obtain ⟨k, hk1, hk, rfl, hx, HA⟩ := hrel
    by_cases hlt : k < xss.length
    · have hd : decide ((k : Int) < (xss.length : Int)) = true := decide_eq_true (by omega)
      obtain ⟨b, off, u1, rfl, c0, i1, f1⟩ := (h.ext hx).at (k := k - 1) (by omega)
      obtain ⟨b', off', u2, e2, c1, i2, f2⟩ := (h.ext hx).at (k := k) hlt
      injection e2 with e2
      injection e2 with e3 e4
      subst e3 e4
      obtain ⟨A1, d1, rfl, _, _⟩ := id i1.form
      obtain ⟨A2, d2, rfl, _, _⟩ := id i2.form
      have SC := slicesCompare_c wr.drew _ _ _ _ (i1.ext (Ext.drew wr)) (i2.ext (Ext.drew wr))
      have e1 : xss[k - 1] = xss.getD (k - 1) [] := by rw [List.getD_eq_getElem?_getD, List.getElem?_eq_getElem (show k - 1 < xss.length by omega)]; rfl
      have e2 : xss[k] = xss.getD (k - 1 + 1) [] := by rw [show k - 1 + 1 = k by omega, List.getD_eq_getElem?_getD, List.getElem?_eq_getElem hlt]; rfl
      obtain ⟨z, hz⟩ : ∃ z, cmpL xss[k - 1] xss[k] = z := ⟨_, rfl⟩
      rw [hz] at SC
      have HZ : Hid (cmpL (xss.getD (k - 1) []) (xss.getD (k - 1 + 1) []) = z) := Lib.hid (by rw [← e1, ← e2]; exact hz)
      have hw1 : IntKind.i64.wrap ((k : Int) - 1) = ((k - 1 : Nat) : Int) := by rw [show (k : Int) - 1 = ((k - 1 : Nat) : Int) by omega]; exact IntWalk.i64_in _ (by omega)
      have hwk : IntKind.i64.wrap ((k : Int) + 1) = ((k + 1 : Nat) : Int) := by rw [show (k : Int) + 1 = ((k + 1 : Nat) : Int) by omega]; exact IntWalk.i64_in _ (by omega)
      obtain ⟨k0, hk0⟩ : ∃ k0, k - 1 = k0 := ⟨_, rfl⟩
      have hl1 : k0 < xss.length := by omega
      have hl2 : (k0 : Int) < (xss.length : Int) := by omega
      have hl3 : (k : Int) < (xss.length : Int) := by omega
      generalize xss[k - 1].length = n1 at *
      generalize xss[k].length = n2 at *
      rw [hk0] at c0 hw1
      have HK0 := Lib.hid hk0
      clear e1 e2 hz i1 i2 f1 f2 hk0
      go_upto_region 4 with fail
      refine wp_region_ordT 10 (readsT [0, 1, 2, 3, 4, 5, 6, 7, 8] (.stir 9 .done)) (by kernel_rfl) (by kernel_rfl) (fun _ _ _ _ _ h => h) ?_
      simp only [readsT]
      iterate 9 (refine wpOrdT_read (v := ?_) (by rfl) (Or.inl ⟨by rfl, fun x hx => ?_⟩) ?_; rotate_left; (· have c0 := hx.cell c0; have c1 := hx.cell c1; go_simp; try with_reducible rfl); try simp only [Act.put, List.setIfInBounds_toArray, List.set_cons_zero, List.set_cons_succ])
      refine wpOrdT_keep (by rfl) (fun K hK => ?_)
      go_simp
      go_at_call 77
      refine SC.mono ?_
      rintro e w2 ⟨rfl, hww⟩
      subst hww
      refine hK _ _ (Ext.refl _) ?_
      clear hK K SC
      try simp only [Act.put, List.setIfInBounds_toArray, List.set_cons_zero, List.set_cons_succ]
      refine wpOrdT_done ?_
      try simp only [List.drop_succ_cons, List.drop_zero]
      by_cases hz0 : 0 ≤ z
      · have hzd : decide (0 ≤ z) = true := decide_eq_true hz0
        have hzd2 : decide (z ≥ 0) = true := decide_eq_true hz0
        go_wp2
        go_ret
        refine ⟨?_, hx.trans (Ext.drew _)⟩
        have e : riseB xss = false := by
          unfold riseB
          rw [List.all_eq_false]
          refine ⟨k0, by rw [List.mem_range]; have := HK0.out; omega, ?_⟩
          have h9 := HZ.out
          rw [HK0.out] at h9
          rw [h9]
          simpa using hz0
        rw [e]
        rfl
      · have hzd : decide (0 ≤ z) = false := decide_eq_false hz0
        have hzd2 : decide (z ≥ 0) = false := decide_eq_false hz0
        go_wp2
        go_roundw
        case rel => exact ⟨k + 1, by omega, .inl (by omega), by go_num, hx.trans (Ext.drew _), Lib.hid (fun j hj => by
          by_cases e : j = k0
          · subst e
            have h9 := HZ.out
            rw [HK0.out] at h9
            rw [h9]
            omega
          · exact HA.out j (by have := HK0.out; omega))⟩
        case measure => simp [intOf]; omega
    · have hd : decide ((k : Int) < (xss.length : Int)) = false := decide_eq_false (by omega)
      have hdn : ¬ ((k : Int) < (xss.length : Int)) := by omega
      go_wp2
      go_ret
      refine ⟨?_, hx⟩
      have e : riseB xss = true := by
        unfold riseB
        rw [List.all_eq_true]
        intro j hj
        rw [List.mem_range] at hj
        exact decide_eq_true (HA.out j (by omega))
      rw [e]
      rfl
end Go.Proofs.YtapjofbjedpmgaaGreat
end
