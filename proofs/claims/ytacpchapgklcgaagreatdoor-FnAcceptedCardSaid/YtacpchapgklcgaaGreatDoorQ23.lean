/- Contract of the program's step back of a partial configuration.
A region that draws its order, walked along a tree of orders: the reading operations first; where two operations that stir memory may come up, both are followed. No program stands here. -/
import Derived.Test.YtacpchapgklcgaaGreatDoorQ21
import Derived.Test.YtacpchapgklcgaaGreatDoorQ22
section
set_option linter.unusedSimpArgs false
set_option linter.unusedVariables false
namespace Go.Proofs.YtacpchapgklcgaaGreatDoor
open Go Go.RowKit Go.Proofs
set_option maxHeartbeats 400000
/-- What a step back gives. -/
def PrdRes (w : World) (o : Option PartD) (e : Ending) (w' : World) : Prop :=
  Ext w w' ∧ ((o = none ∧ e = .returned (.tuple #[.agg #[.int .i64 0, .int .i64 0, .slice none 0 0], .bool false])) ∨
    ∃ y u, o = some y ∧ e = .returned (.tuple #[.agg #[.int .i64 y.q, .int .i64 (y.p : Int), u], .bool true]) ∧ OwnInts w.heap.size w' u y.cs)
/-- The result's block is written. -/
theorem prd_put {w X : World} {g : Nat} {cs : Array Value} {u : Value} {zs : List Int} {base : Nat} (hx : Ext w X) (hg : w.heap.size ≤ g) (hb : Blk X g 101 cs) (ho : OwnInts base X u zs) (x y : Value) :
    Ext w (((X.setCell ⟨g, 0, none⟩ x).setCell ⟨g, 1, none⟩ y).setCell ⟨g, 2, none⟩ u) ∧ OwnInts base (((X.setCell ⟨g, 0, none⟩ x).setCell ⟨g, 1, none⟩ y).setCell ⟨g, 2, none⟩ u) u zs := by
  have hf := own_far_blk ho hb (by decide)
  exact ⟨((hx.setCell hg _).setCell hg _).setCell hg _, ownsRow_far (ownsRow_far (ownsRow_far ho hf _) hf _) hf _⟩
theorem own_nil0 (w : World) : OwnInts 0 w (.slice none 0 0) [] := ⟨by simp [ivs], .inl ⟨rfl, rfl⟩⟩
theorem blkRow {w : World} {g : Nat} {t : TypeId} {vs : List Value} (h : Blk w g t vs.toArray) (hl : vs.length ≤ 1000) : Row w 1 (.slice (some ⟨g, 0, none⟩) vs.length vs.length) vs.length vs := by
  refine ⟨_, vs.length, rfl, Nat.le_refl _, by omega, by simp, fun _ => ⟨g, 0, rfl, fun j hj => ?_⟩⟩
  rw [Nat.zero_add, h.cell j]
  simp
theorem ownOne {w : World} {g : Nat} {z : Int} (h : Blk w g 2 #[.int .i64 z]) : OwnInts 0 w (.slice (some ⟨g, 0, none⟩) 1 1) [z] :=
  ⟨by simp [ivs], .inr ⟨g, 1, #[.int .i64 z], rfl, Nat.zero_le _, h, by simp, by unfold maxLen; omega, by simp, by simp [ivs]⟩⟩
/-- Two lists are joined. -/
theorem joinTwo_c (u v : Value) (xs ys : List Int) (g : Nat) (w : World) (hu : OwnInts 0 w u xs) (hv : OwnInts 0 w v ys) (hb : Blk w g 28 #[u, v]) (hl : xs.length + ys.length ≤ 10000) :
    Calls Tryz.prog 73 #[.slice (some ⟨g, 0, none⟩) 2 2] w fun e w' => ∃ u, e = .returned u ∧ OwnInts w.heap.size w' u (xs ++ ys) ∧ Ext w w' := by
  have := joined_c (.slice (some ⟨g, 0, none⟩) 2 2) [xs, ys] [u, v] w (blkRow (vs := [u, v]) hb (by simp)) (fun i hi => by
    match i, hi with
    | 0, _ => exact ⟨u, rfl, hu.ints, hu.flat⟩
    | 1, _ => exact ⟨v, rfl, hv.ints, hv.flat⟩) (by simp) (by simp [tot]; omega)
  simpa using this
set_option maxRecDepth 20000 in
set_option maxHeartbeats 4000000 in
theorem predecessor_c (x : PartD) (q a : Int) (r : RuleD) (u : Value) (w : World) (h : OwnInts 0 w u x.cs) (hp : x.p < x.cs.length) (hl : x.cs.length ≤ 1000) (hm : r.m = 1 ∨ r.m = -1) :
    Calls Tryz.prog 113 #[.agg #[.int .i64 x.q, .int .i64 (x.p : Int), u], .int .i64 q, .int .i64 a, .agg #[.int .i64 r.w, .int .i64 r.m, .int .i64 r.n]] w (PrdRes w (predP x q a r)) := by
  obtain ⟨xq, p, cs⟩ := x
  simp only at *
  obtain ⟨A, c, rfl, h1, h2⟩ := h.ints.form
  obtain ⟨b, rfl, _, _⟩ := own_at h (by omega)
  obtain ⟨W, hW⟩ : ∃ W, ((w.alloc (.cells #[.int .i64 xq, .int .i64 (p : Int), .slice (some ⟨b, 0, none⟩) cs.length c] 101)).alloc (.cells #[.int .i64 r.w, .int .i64 r.m, .int .i64 r.n] 38)).alloc (.cells #[.int .i64 0, .int .i64 0, .slice none 0 0] 101) = W := ⟨_, rfl⟩
  have hX : Ext w W := by rw [← hW]; exact ((Ext.alloc _ _).trans (Ext.alloc _ _)).trans (Ext.alloc _ _)
  have bP : Blk W w.heap.size 101 #[.int .i64 xq, .int .i64 (p : Int), .slice (some ⟨b, 0, none⟩) cs.length c] := by rw [← hW]; exact ((Blk.new _ _ _ _ rfl).alloc _).alloc _
  have bR : Blk W (w.heap.size + 1) 38 #[.int .i64 r.w, .int .i64 r.m, .int .i64 r.n] := by rw [← hW]; exact (Blk.new _ _ _ _ (by simp)).alloc _
  have bO : Blk W (w.heap.size + 1 + 1) 101 #[.int .i64 0, .int .i64 0, .slice none 0 0] := by rw [← hW]; exact Blk.new _ _ _ _ (by simp)
  generalize hg0 : w.heap.size = g at *
  have p0 := bP.cell 0
  have p1 := bP.cell 1
  have p2 := bP.cell 2
  have r0 := bR.cell 0
  have r1 := bR.cell 1
  have r2 := bR.cell 2
  have o0 := bO.cell 0
  have o1 := bO.cell 1
  have o2 := bO.cell 2
  have f0 := bO.frozen 0
  have f1 := bO.frozen 1
  have f2 := bO.frozen 2
  simp only [List.getElem?_toArray, List.getElem?_cons_zero, List.getElem?_cons_succ] at p0 p1 p2 r0 r1 r2 o0 o1 o2
  have hw1 : IntKind.i64.wrap ((p : Int) - r.m) = (p : Int) - r.m := IntWalk.i64_in _ (by omega)
  have HI := Lib.hid h
  have HM := Lib.hid hm
  have HX := Lib.hid hX
  clear h hm hX
  unfold predP
  simp only
  have hw : Hid (w.heap.size ≤ g) := Lib.hid (by omega)
  by_cases c0 : ¬ r.n = xq
  · rw [if_pos c0]
    have hne : (r.n != xq) = true := by simp [c0]
    go_enter Tryz.func113, Tryz.ntmps113
    go_wp2_with fail
    refine bodyPost_ret (v := .tuple #[.agg #[.int .i64 0, .int .i64 0, .slice none 0 0], .bool false]) (by simp [results, Tryz.results113, go_sem, o0, o1, o2]) rfl ⟨?_, .inl ⟨rfl, rfl⟩⟩
    exact (prd_put HX.out (by rw [hg0]; omega) bO (own_nil0 W) _ _).1
  rw [if_neg c0]
  obtain rfl : r.n = xq := Decidable.not_not.1 c0
  have hne : (r.n != r.n) = false := by simp
  clear c0
  by_cases c1 : (p : Int) - r.m < 0
  · rw [if_pos c1]
    obtain ⟨n2, hn2⟩ : ∃ n, W.heap.size = n := ⟨_, rfl⟩
    obtain ⟨W2, hW2⟩ : ∃ X, W.alloc (.cells #[.int .i64 a] 2) = X := ⟨_, rfl⟩
    obtain ⟨W3, hW3⟩ : ∃ X, W2.alloc (.cells #[.slice (some ⟨n2, 0, none⟩) 1 1, .slice (some ⟨b, 0, none⟩) cs.length c] 28) = X := ⟨_, rfl⟩
    have E2 : Ext W W2 := by rw [← hW2]; exact Ext.alloc _ _
    have E3 : Ext W2 W3 := by rw [← hW3]; exact Ext.alloc _ _
    have b2 : Blk W2 n2 2 #[.int .i64 a] := by rw [← hW2]; exact Blk.new _ _ _ _ hn2
    have b3 : Blk W3 W2.heap.size 28 #[.slice (some ⟨n2, 0, none⟩) 1 1, .slice (some ⟨b, 0, none⟩) cs.length c] := by rw [← hW3]; exact Blk.new _ _ _ _ rfl
    have k2 := (bP.ext E2).cell 2
    simp only [List.getElem?_toArray, List.getElem?_cons_zero, List.getElem?_cons_succ] at k2
    have hj := joinTwo_c _ _ _ _ _ W3 ((ownOne b2).ext E3) (((HI.out.ext HX.out).ext E2).ext E3) b3 (by simp; omega)
    have bO3 := (bO.ext E2).ext E3
    have hs3 : w.heap.size ≤ W3.heap.size := ((HX.out.trans E2).trans E3).size
    go_enter Tryz.func113, Tryz.ntmps113
    go_wp2_with fail
    refine hj.mono ?_
    rintro e w4 ⟨uj, rfl, hoj, hxj⟩
    have bO4 := bO3.ext hxj
    have o0 := bO4.cell 0
    have o1 := bO4.cell 1
    have o2 := bO4.cell 2
    have f0 := bO4.frozen 0
    have f1 := bO4.frozen 1
    have f2 := bO4.frozen 2
    simp only [List.getElem?_toArray, List.getElem?_cons_zero, List.getElem?_cons_succ] at o0 o1 o2
    obtain ⟨Aj, cj, rfl, _, _⟩ := hoj.ints.form
    have hp := Lib.hid (prd_put (((HX.out.trans E2).trans E3).trans hxj) (by rw [hg0]; omega) bO4 (OwnInts.base hoj hs3) (.int .i64 q) (.int .i64 0))
    clear hoj
    go_wp2_with fail
    refine bodyPost_ret (v := .tuple #[.agg #[.int .i64 q, .int .i64 0, .slice Aj ([a] ++ cs).length cj], .bool true]) (by simp [results, Tryz.results113, go_sem, o0, o1, o2]) rfl ⟨hp.out.1, .inr ⟨_, _, rfl, rfl, hp.out.2⟩⟩
  rw [if_neg c1]
  obtain ⟨k, hk⟩ : ∃ k : Nat, (p : Int) - r.m = (k : Int) := ⟨((p : Int) - r.m).toNat, by omega⟩
  have hkl : k ≤ cs.length := by have := HM.out; omega
  rw [hk]
  rw [hk] at hw1
  have HKM := Lib.hid hk
  have hsz := sizeInt_c (.slice (some ⟨b, 0, none⟩) cs.length c) cs W ((HI.out.ext HX.out).ints)
  by_cases c2 : (k : Int) = (cs.length : Int)
  · rw [if_pos c2]
    have hkc : cs.length = k := by omega
    have hd : ((k : Int) == (cs.length : Int)) = true := by simp [c2]
    obtain ⟨n2, hn2⟩ : ∃ n, W.heap.size = n := ⟨_, rfl⟩
    obtain ⟨W2, hW2⟩ : ∃ X, W.alloc (.cells #[.int .i64 a] 2) = X := ⟨_, rfl⟩
    obtain ⟨W3, hW3⟩ : ∃ X, W2.alloc (.cells #[.slice (some ⟨b, 0, none⟩) cs.length c, .slice (some ⟨n2, 0, none⟩) 1 1] 28) = X := ⟨_, rfl⟩
    have E2 : Ext W W2 := by rw [← hW2]; exact Ext.alloc _ _
    have E3 : Ext W2 W3 := by rw [← hW3]; exact Ext.alloc _ _
    have b2 : Blk W2 n2 2 #[.int .i64 a] := by rw [← hW2]; exact Blk.new _ _ _ _ hn2
    have b3 : Blk W3 W2.heap.size 28 #[.slice (some ⟨b, 0, none⟩) cs.length c, .slice (some ⟨n2, 0, none⟩) 1 1] := by rw [← hW3]; exact Blk.new _ _ _ _ rfl
    have k2 := (bP.ext E2).cell 2
    simp only [List.getElem?_toArray, List.getElem?_cons_zero, List.getElem?_cons_succ] at k2
    have hj := joinTwo_c _ _ _ _ _ W3 (((HI.out.ext HX.out).ext E2).ext E3) ((ownOne b2).ext E3) b3 (by simp; omega)
    obtain ⟨L, hL⟩ : ∃ L, cs ++ [a] = L := ⟨_, rfl⟩
    rw [hL] at hj ⊢
    have bO3 := (bO.ext E2).ext E3
    have hs3 : w.heap.size ≤ W3.heap.size := ((HX.out.trans E2).trans E3).size
    have HC := Lib.hid hkc
    clear hkc c2
    go_enter Tryz.func113, Tryz.ntmps113
    go_wp2_with (go_at_call 40; refine hsz.mono ?_; rintro e w' ⟨rfl, rfl⟩)
    refine hj.mono ?_
    rintro e w4 ⟨uj, rfl, hoj, hxj⟩
    have bO4 := bO3.ext hxj
    have o0 := bO4.cell 0
    have o1 := bO4.cell 1
    have o2 := bO4.cell 2
    have f0 := bO4.frozen 0
    have f1 := bO4.frozen 1
    have f2 := bO4.frozen 2
    simp only [List.getElem?_toArray, List.getElem?_cons_zero, List.getElem?_cons_succ] at o0 o1 o2
    obtain ⟨Aj, cj, rfl, _, _⟩ := hoj.ints.form
    have hp := Lib.hid (prd_put (((HX.out.trans E2).trans E3).trans hxj) (by rw [hg0]; omega) bO4 (OwnInts.base hoj hs3) (.int .i64 q) (.int .i64 (k : Int)))
    clear hoj
    go_wp2_with fail
    refine bodyPost_ret (v := .tuple #[.agg #[.int .i64 q, .int .i64 (k : Int), .slice Aj L.length cj], .bool true]) (by simp [results, Tryz.results113, go_sem, o0, o1, o2]) rfl ⟨hp.out.1, .inr ⟨_, _, rfl, by rw [HC.out], hp.out.2⟩⟩
  rw [if_neg c2]
  have hkl2 : k < cs.length := by omega
  have hd : ((k : Int) == (cs.length : Int)) = false := by simp; omega
  rw [Int.toNat_natCast]
  have hgd : cs.getD k 0 = cs[k] := by rw [List.getD_eq_getElem?_getD, List.getElem?_eq_getElem hkl2]; rfl
  rw [hgd]
  obtain ⟨b', off, hA, hcc⟩ := ((HI.out.ext HX.out).ints).at hkl2
  injection hA with hA
  injection hA with hA1 hA2
  subst hA1 hA2
  have e1 := hcc k hkl2
  rw [Nat.zero_add] at e1
  have i1 : (0 : Int) ≤ (k : Int) := by omega
  have i2 : (k : Int) < (cs.length : Int) := by omega
  have e2 := p2
  have e3 := r0
  have HSET : Hid (cs.set k a = cs.set k a) := Lib.hid rfl
  have HK := Lib.hid hgd
  clear hgd hcc
  by_cases c3 : ¬ cs[k] = r.w
  · rw [if_pos c3]
    have hne2 : (cs[k] != r.w) = true := by simp [c3]
    generalize cs[k] = z at *
    go_enter Tryz.func113, Tryz.ntmps113
    go_wp2_with (go_at_call 40; refine hsz.mono ?_; rintro e w' ⟨rfl, rfl⟩)
    refine wp_region_ord 8 [0, 1, 2, 3, 4, 5, 6, 7] (by kernel_rfl) (by kernel_rfl) (fun _ _ _ _ _ h => h) ?_
    simp only [pickO, List.drop_succ_cons, List.drop_zero, List.head?_cons, Option.elim_some]
    repeat (refine wpOrd_read (v := ?_) (by rfl) (Or.inl ⟨by rfl, fun x hx => ?_⟩) ?_; rotate_left; (· have a1 := hx.cell e1; have a2 := hx.cell e2; have a3 := hx.cell e3; go_simp; try with_reducible rfl); simp only [Act.put, List.setIfInBounds_toArray, List.set_cons_zero, List.set_cons_succ])
    refine wpOrd_done ?_
    try simp only [List.drop_succ_cons, List.drop_zero]
    have bOD := bO.drew
    have o0 := bOD.cell 0
    have o1 := bOD.cell 1
    have o2 := bOD.cell 2
    have f0 := bOD.frozen 0
    have f1 := bOD.frozen 1
    have f2 := bOD.frozen 2
    simp only [List.getElem?_toArray, List.getElem?_cons_zero, List.getElem?_cons_succ] at o0 o1 o2
    have hp := Lib.hid (prd_put (HX.out.trans (Ext.drew W)) (by rw [hg0]; omega) bOD (own_nil0 _) (.int .i64 0) (.int .i64 0))
    have z0 := bO.cell 0
    have z1 := bO.cell 1
    have z2 := bO.cell 2
    simp only [List.getElem?_toArray, List.getElem?_cons_zero, List.getElem?_cons_succ] at z0 z1 z2
    go_wp2_with fail
    refine bodyPost_ret (v := .tuple #[.agg #[.int .i64 0, .int .i64 0, .slice none 0 0], .bool false]) (by simp [results, Tryz.results113, go_sem, z0, z1, z2]) rfl ⟨?_, .inl ⟨rfl, rfl⟩⟩
    exact hp.out.1
  rw [if_neg c3]
  have hne2 : (cs[k] != r.w) = false := by simpa using c3
  have hzw : cs[k] = r.w := Decidable.not_not.1 c3
  rw [hzw] at e1
  have hne3 : (r.w != r.w) = false := by simp
  clear c3 hne2 hzw HK
  have hD := HX.out.trans (Ext.drew W)
  have hcl := Clone_c (.slice (some ⟨b, 0, none⟩) cs.length c) cs W.drew ((HI.out.ext hD).ints) (by omega) (by omega)
  have bOD := bO.drew
  have d2 := bP.drew.cell 2
  simp only [List.getElem?_toArray, List.getElem?_cons_zero, List.getElem?_cons_succ] at d2
  have hsD : w.heap.size ≤ W.drew.heap.size := hD.size
  go_enter Tryz.func113, Tryz.ntmps113
  go_wp2_with (go_at_call 40; refine hsz.mono ?_; rintro e w' ⟨rfl, rfl⟩)
  refine wp_region_ord 8 [0, 1, 2, 3, 4, 5, 6, 7] (by kernel_rfl) (by kernel_rfl) (fun _ _ _ _ _ h => h) ?_
  simp only [pickO, List.drop_succ_cons, List.drop_zero, List.head?_cons, Option.elim_some]
  repeat (refine wpOrd_read (v := ?_) (by rfl) (Or.inl ⟨by rfl, fun x hx => ?_⟩) ?_; rotate_left; (· have a1 := hx.cell e1; have a2 := hx.cell e2; have a3 := hx.cell e3; go_simp; try with_reducible rfl); simp only [Act.put, List.setIfInBounds_toArray, List.set_cons_zero, List.set_cons_succ])
  refine wpOrd_done ?_
  try simp only [List.drop_succ_cons, List.drop_zero]
  go_wp2_with fail
  refine hcl.mono ?_
  rintro e w4 ⟨uc, rfl, hoc, hxc⟩
  obtain ⟨Ac, cc, rfl, _, _⟩ := hoc.ints.form
  obtain ⟨gc, rfl, _, hgc⟩ := own_at hoc (by omega)
  have bO4 := bOD.ext hxc
  have hX4 := hD.trans hxc
  have eB := Ext.alloc w4 (.cells #[.int .i64 q, .int .i64 (k : Int), .slice (some ⟨gc, 0, none⟩) cs.length cc] 101)
  have hoE := hoc.ext eB
  have bN : Blk (w4.alloc (.cells #[.int .i64 q, .int .i64 (k : Int), .slice (some ⟨gc, 0, none⟩) cs.length cc] 101)) w4.heap.size 101 #[.int .i64 q, .int .i64 (k : Int), .slice (some ⟨gc, 0, none⟩) cs.length cc] := Blk.new _ _ _ _ rfl
  have ck := hoE.cellAt k (by omega)
  rw [ivs_get _ _ hkl2] at ck
  have fk := hoE.frozenAt k
  have nb := bN.cell 2
  simp only [List.getElem?_toArray, List.getElem?_cons_zero, List.getElem?_cons_succ] at nb
  clear o0 o1 o2 f0 f1 f2
  have hfar := own_far_blk hoc bO4 (by decide)
  have hne5 : g + 1 + 1 ≠ gc := fun e => hfar gc rfl e.symm
  have bO5 := bO4.far (p := ⟨gc, k, none⟩) hne5 (.int .i64 a)
  have hs5 := (World.ownsRow.stored hoc k (.int .i64 a)).1
  rw [← ivs_set] at hs5
  have hX5 := hX4.setCell (p := ⟨gc, k, none⟩) (by show w.heap.size ≤ gc; omega) (.int .i64 a)
  have bO6 := bO5.alloc (.cells #[.int .i64 q, .int .i64 (k : Int), .slice (some ⟨gc, 0, none⟩) cs.length cc] 101)
  have e6 := Ext.alloc (w4.setCell ⟨gc, k, none⟩ (.int .i64 a)) (.cells #[.int .i64 q, .int .i64 (k : Int), .slice (some ⟨gc, 0, none⟩) cs.length cc] 101)
  have hl5 : (cs.set k a).length = cs.length := List.length_set ..
  have hs6 : OwnInts w.heap.size _ (.slice (some ⟨gc, 0, none⟩) cs.length cc) (cs.set k a) := OwnInts.base (b := W.drew.heap.size) (show OwnInts _ _ _ _ from by
    unfold OwnInts
    rw [hl5]
    exact ownsRow_ext hs5 e6) hsD
  have o0 := bO6.cell 0
  have o1 := bO6.cell 1
  have o2 := bO6.cell 2
  have f0 := bO6.frozen 0
  have f1 := bO6.frozen 1
  have f2 := bO6.frozen 2
  simp only [List.getElem?_toArray, List.getElem?_cons_zero, List.getElem?_cons_succ] at o0 o1 o2
  have hp := Lib.hid (prd_put (hX5.trans e6) (by rw [hg0]; omega) bO6 hs6 (.int .i64 q) (.int .i64 (k : Int)))
  clear hs5 hs6 hl5 hfar
  go_wp2_with fail
  refine bodyPost_ret (v := .tuple #[.agg #[.int .i64 q, .int .i64 (k : Int), .slice (some ⟨gc, 0, none⟩) cs.length cc], .bool true]) (by simp [results, Tryz.results113, go_sem, o0, o1, o2]) rfl ⟨hp.out.1, .inr ⟨_, _, rfl, rfl, hp.out.2⟩⟩
end Go.Proofs.YtacpchapgklcgaaGreatDoor
end
section
namespace Go.Proofs.YtacpchapgklcgaaGreatDoor
open Go
section
variable {P : Program} {ops : Array Oper} {md : Region.Mode} {Q : Exit → Act → World → Prop}
inductive OrdT where
  | done
  | read (i : Nat) (t : OrdT)
  | stir (i : Nat) (t : OrdT)
  | fork (i : Nat) (t : OrdT) (j : Nat) (u : OrdT)
def readsT : List Nat → OrdT → OrdT
  | [], t => t
  | i :: is, t => .read i (readsT is t)
def nthO : List Oper → Nat → Option Oper
  | [], _ => none
  | o :: _, 0 => some o
  | _ :: l, i + 1 => nthO l i
theorem nthO_eq : ∀ (l : List Oper) (i : Nat), nthO l i = l[i]?
  | [], _ => rfl
  | _ :: _, 0 => rfl
  | _ :: l, i + 1 => by simpa [nthO] using nthO_eq l i
/-- One that stirs comes up; behind it the class of worlds may become narrower. -/
def stirT (P : Program) (ops : Array Oper) (Q : Exit → Act → World → Prop) (X : (World → Prop) → Act → World → Prop) (o : Oper) (S : World → Prop) (a : Act) (w : World) : Prop :=
  ∀ K : Act → World → Prop, (∀ (S' : World → Prop) a' w', (∀ x, S' x → S x) → S' w' → X S' a' w' → K a' w') →
      if Region.wanted o (yielded ops a.tmps) = true then Oper.wp P o a w K Q else K (a.put o.dst undef) w
def wpOrdT (P : Program) (ops : Array Oper) (Q : Exit → Act → World → Prop) (l : List Oper) (L : Act → World → Prop) : OrdT → (World → Prop) → Act → World → Prop
  | .done, _, a, w => L a w
  | .read i t, S, a, w => ∃ o, nthO l i = some o ∧ ∃ v, YieldsIf P ops S o v a ∧ wpOrdT P ops Q l L t S (a.put o.dst v) w
  | .stir i t, S, a, w => ∃ o, nthO l i = some o ∧ stirT P ops Q (wpOrdT P ops Q l L t) o S a w
  | .fork i t j u, S, a, w => (∃ o, nthO l i = some o ∧ stirT P ops Q (wpOrdT P ops Q l L t) o S a w) ∧ (∃ o, nthO l j = some o ∧ stirT P ops Q (wpOrdT P ops Q l L u) o S a w)
def ordTB (md : Region.Mode) (ops : Array Oper) (n g : Nat) : Nat → OrdT → Array Bool → Bool
  | 0, .done, listed => Region.seqB md ops g n listed
  | f + 1, .read i t, listed => decide (i < n) && (Region.ready md ops listed).contains i && Region.free md ops listed i && ordTB md ops n g f t (listed.setIfInBounds i true)
  | f + 1, .stir i t, listed => decide (i < n) && (Region.ready md ops listed == [i]) && ordTB md ops n g f t (listed.setIfInBounds i true)
  | f + 1, .fork i t j u, listed => decide (i < n) && decide (j < n) && (Region.ready md ops listed == [i, j]) && ordTB md ops n g f t (listed.setIfInBounds i true) && ordTB md ops n g f u (listed.setIfInBounds j true)
  | _, _, _ => false
theorem wpOp_stirT {X : (World → Prop) → Act → World → Prop} {Y : (World → Prop) → Act → World → Prop} {i : Nat} {o : Oper} {S : World → Prop} {a : Act} {w : World} (hi : ops[i]? = some o) (h : stirT P ops Q X o S a w) (hXY : ∀ S' a' w', S' w' → X S' a' w' → Y S' a' w') :
    wpOp P ops Q i (fun a' w' => ∃ S' : World → Prop, (∀ x, S' x → S x) ∧ S' w' ∧ Y S' a' w') a w :=
  wpOp_step hi fun K' hK' => h K' fun S' a' w' hsub hS' hW => hK' a' w' ⟨S', hsub, hS', hXY S' a' w' hS' hW⟩
theorem wpAnyN_ordT {n g : Nat} {Lq : Act → World → Prop} {l : List Oper} (hl : ops = l.toArray) (hsel : Region.noSelect ops = true) (hQ : ∀ c t t' d w, Q (.panic c) ⟨t, d⟩ w → Q (.panic c) ⟨t', d⟩ w) (hs : Region.sinkB md ops n = true) (hc : Region.chainB md ops n = true) (hn : n < ops.size) :
    ∀ (f : Nat) (tr : OrdT) (S : World → Prop) (listed : Array Bool) (a : Act) (w : World), HeadInv md ops n listed → ordTB md ops n g f tr listed = true → S w → wpOrdT P ops Q l Lq tr S a w →
    wpAnyN P md ops Q n (fun listed' a' w' => Region.seqB md ops g n listed' = true ∧ Lq a' w') f S listed a w := by
  have hnth : ∀ i o, nthO l i = some o → ops[i]? = some o := fun i o h => by rw [nthO_eq] at h; rw [hl]; simpa using h
  intro f
  induction f with
  | zero =>
    intro tr S listed a w inv hB hS h
    cases tr with
    | done => exact ⟨hB, h⟩
    | read i t => simp [ordTB] at hB
    | stir i t => simp [ordTB] at hB
    | fork i t j u => simp [ordTB] at hB
  | succ f ih =>
    intro tr S listed a w inv hB hS h
    cases tr with
    | done => simp [ordTB] at hB
    | read i t =>
      simp only [ordTB, Bool.and_eq_true, decide_eq_true_eq] at hB
      obtain ⟨⟨⟨hin, hr⟩, hf⟩, hB'⟩ := hB
      obtain ⟨o, ho, v, hy, hK⟩ := h
      have hi := hnth i o ho
      have hr' : i ∈ Region.ready md ops listed := by simpa using hr
      exact wpAnyN_first hi (Region.noSelect_spec hsel) hQ hs hc hn hin (fun listed' a' w' hL => seqB_ready hL.1) f S listed a w inv (Region.free_spec hi hf) hr' hy hS
        (ih t S _ _ w (inv.set hr' hin) hB' hS hK)
    | stir i t =>
      simp only [ordTB, Bool.and_eq_true, decide_eq_true_eq] at hB
      obtain ⟨⟨hin, hr⟩, hB'⟩ := hB
      obtain ⟨o, ho, hK⟩ := h
      have hr : Region.ready md ops listed = [i] := by simpa using hr
      refine ⟨by rw [hr]; simp, fun j hj => ?_⟩
      have hji : j = i := by rw [hr] at hj; simpa using hj
      subst hji
      exact ⟨hin, wpOp_stirT (hnth j o ho) hK fun S' a' w' hS' hW => ih t S' _ a' w' (inv.set hj hin) hB' hS' hW⟩
    | fork i t j u =>
      simp only [ordTB, Bool.and_eq_true, decide_eq_true_eq] at hB
      obtain ⟨⟨⟨⟨hin, hjn⟩, hr⟩, hB1⟩, hB2⟩ := hB
      obtain ⟨⟨o, ho, hK⟩, ⟨o', ho', hK'⟩⟩ := h
      have hr : Region.ready md ops listed = [i, j] := by simpa using hr
      refine ⟨by rw [hr]; simp, fun k hk => ?_⟩
      have hkk : k = i ∨ k = j := by rw [hr] at hk; simpa using hk
      by_cases e : k = i
      · subst e
        exact ⟨hin, wpOp_stirT (hnth k o ho) hK fun S' a' w' hS' hW => ih t S' _ a' w' (inv.set hk hin) hB1 hS' hW⟩
      · have e2 : k = j := hkk.resolve_left e
        subst e2
        exact ⟨hjn, wpOp_stirT (hnth k o' ho') hK' fun S' a' w' hS' hW => ih u S' _ a' w' (inv.set hk hjn) hB2 hS' hW⟩
def ordTreeB (md : Region.Mode) (ops : Array Oper) (n : Nat) (tr : OrdT) : Bool :=
  Region.noSelect ops && decide (n < ops.size) && Region.sinkB md ops n && Region.chainB md ops n && ordTB md ops n (ops.size - n) n tr (Array.replicate ops.size false)
theorem wp_region_ordT {id : Nat} {a : Act} {w : World} {l : List Oper} (n : Nat) (tr : OrdT) (hm : P.follows .mixedOrders = true) (hB : ordTreeB .any l.toArray n tr = true)
    (hQ : ∀ c t t' d w, Q (.panic c) ⟨t, d⟩ w → Q (.panic c) ⟨t', d⟩ w)
    (h : wpOrdT P l.toArray Q l (fun a' w' => wpList P l.toArray Q (l.drop n) a' w') tr (Ext w.drew) a w.drew) : (Code.region id l.toArray true).wp P Q a w := by
  simp only [ordTreeB, Bool.and_eq_true, decide_eq_true_eq] at hB
  obtain ⟨⟨⟨⟨hsel, hn⟩, hs⟩, hc⟩, hord⟩ := hB
  have hn' : n < l.length := by simpa using hn
  have hdl : (l.drop n).length = l.toArray.size - n := by simp
  have inv0 : HeadInv .any l.toArray n (Array.replicate l.toArray.size false) :=
    ⟨by simp, fun j oj _ hl => (by rw [getD_replicate_false] at hl; cases hl), fun t _ ht => getD_in (by simpa using ht) (getD_replicate_false _ _)⟩
  have H := wpAnyN_ordT (md := .any) (g := l.toArray.size - n) (Lq := fun a' w' => wpList P l.toArray Q (l.drop n) a' w') rfl hsel hQ hs hc hn n tr (Ext w.drew) _ a w.drew inv0 hord (Ext.refl _) h
  refine wp_region_any hm ?_
  have := wpAny_of_N (Q := Q) (g := l.toArray.size - n) (fun listed a' w' hL => by
    have := wpAny_of_seq (md := .any) (Q' := Q) (l.drop n) n listed a' w' (fun j => by simp [List.getElem?_drop]) (by rw [hdl]; exact hL.1) hL.2
    rwa [hdl] at this) _ _ _ _ _ H
  rw [show n + (l.toArray.size - n) = l.toArray.size by simp; omega] at this
  exact this
/-- The same, from a class of worlds that is picked. -/
theorem wp_region_ordTS {id : Nat} {a : Act} {w : World} {l : List Oper} (S : World → Prop) (n : Nat) (tr : OrdT) (hm : P.follows .mixedOrders = true) (hB : ordTreeB .any l.toArray n tr = true)
    (hQ : ∀ c t t' d w, Q (.panic c) ⟨t, d⟩ w → Q (.panic c) ⟨t', d⟩ w)
    (hS : S w.drew) (h : wpOrdT P l.toArray Q l (fun a' w' => wpList P l.toArray Q (l.drop n) a' w') tr S a w.drew) : (Code.region id l.toArray true).wp P Q a w := by
  simp only [ordTreeB, Bool.and_eq_true, decide_eq_true_eq] at hB
  obtain ⟨⟨⟨⟨hsel, hn⟩, hs⟩, hc⟩, hord⟩ := hB
  have hn' : n < l.length := by simpa using hn
  have hdl : (l.drop n).length = l.toArray.size - n := by simp
  have inv0 : HeadInv .any l.toArray n (Array.replicate l.toArray.size false) :=
    ⟨by simp, fun j oj _ hl => (by rw [getD_replicate_false] at hl; cases hl), fun t _ ht => getD_in (by simpa using ht) (getD_replicate_false _ _)⟩
  have H := wpAnyN_ordT (md := .any) (g := l.toArray.size - n) (Lq := fun a' w' => wpList P l.toArray Q (l.drop n) a' w') rfl hsel hQ hs hc hn n tr S _ a w.drew inv0 hord hS h
  refine wp_region_any hm ?_
  have := wpAny_of_N (Q := Q) (g := l.toArray.size - n) (fun listed a' w' hL => by
    have := wpAny_of_seq (md := .any) (Q' := Q) (l.drop n) n listed a' w' (fun j => by simp [List.getElem?_drop]) (by rw [hdl]; exact hL.1) hL.2
    rwa [hdl] at this) _ _ _ _ _ H
  rw [show n + (l.toArray.size - n) = l.toArray.size by simp; omega] at this
  exact this
theorem wpOrdT_read {l : List Oper} {L : Act → World → Prop} {i : Nat} {t : OrdT} {o : Oper} {S : World → Prop} {a : Act} {w : World} {v : Value} (ho : nthO l i = some o) (hy : YieldsIf P ops S o v a) (h : wpOrdT P ops Q l L t S (a.put o.dst v) w) : wpOrdT P ops Q l L (.read i t) S a w :=
  ⟨o, ho, v, hy, h⟩
theorem stirT_ext {X : (World → Prop) → Act → World → Prop} {o : Oper} {a : Act} {w : World} (h : ∀ K : Act → World → Prop, (∀ a' w', Ext w w' → X (Ext w') a' w' → K a' w') → if Region.wanted o (yielded ops a.tmps) = true then Oper.wp P o a w K Q else K (a.put o.dst undef) w) :
    stirT P ops Q X o (Ext w) a w := fun K hK => h K fun a' w' he hW => hK (Ext w') a' w' (fun _ hx => he.trans hx) (Ext.refl _) hW
theorem wpOrdT_stir {l : List Oper} {L : Act → World → Prop} {i : Nat} {t : OrdT} {o : Oper} {w : World} {a : Act} (ho : nthO l i = some o)
    (h : ∀ K : Act → World → Prop, (∀ a' w', Ext w w' → wpOrdT P ops Q l L t (Ext w') a' w' → K a' w') → if Region.wanted o (yielded ops a.tmps) = true then Oper.wp P o a w K Q else K (a.put o.dst undef) w) : wpOrdT P ops Q l L (.stir i t) (Ext w) a w :=
  ⟨o, ho, stirT_ext h⟩
theorem wpOrdT_fork {l : List Oper} {L : Act → World → Prop} {i j : Nat} {t u : OrdT} {o o' : Oper} {w : World} {a : Act} (ho : nthO l i = some o) (ho' : nthO l j = some o')
    (h : ∀ K : Act → World → Prop, (∀ a' w', Ext w w' → wpOrdT P ops Q l L t (Ext w') a' w' → K a' w') → if Region.wanted o (yielded ops a.tmps) = true then Oper.wp P o a w K Q else K (a.put o.dst undef) w)
    (h' : ∀ K : Act → World → Prop, (∀ a' w', Ext w w' → wpOrdT P ops Q l L u (Ext w') a' w' → K a' w') → if Region.wanted o' (yielded ops a.tmps) = true then Oper.wp P o' a w K Q else K (a.put o'.dst undef) w) : wpOrdT P ops Q l L (.fork i t j u) (Ext w) a w :=
  ⟨⟨o, ho, stirT_ext h⟩, ⟨o', ho', stirT_ext h'⟩⟩
/-- One that stirs, and leaves a world of the same class. -/
theorem wpOrdT_keep {l : List Oper} {L : Act → World → Prop} {i : Nat} {t : OrdT} {o : Oper} {S : World → Prop} {w : World} {a : Act} (ho : nthO l i = some o)
    (h : ∀ K : Act → World → Prop, (∀ a' w', S w' → wpOrdT P ops Q l L t S a' w' → K a' w') → if Region.wanted o (yielded ops a.tmps) = true then Oper.wp P o a w K Q else K (a.put o.dst undef) w) : wpOrdT P ops Q l L (.stir i t) S a w :=
  ⟨o, ho, fun K hK => h K fun a' w' hS hW => hK S a' w' (fun _ hx => hx) hS hW⟩
/-- Where two may come up, a class for each. -/
theorem wpOrdT_forks {l : List Oper} {L : Act → World → Prop} {i j : Nat} {t u : OrdT} {o o' : Oper} {S : World → Prop} {w : World} {a : Act} (ho : nthO l i = some o) (ho' : nthO l j = some o')
    (h : ∀ K : Act → World → Prop, (∀ (S' : World → Prop) a' w', (∀ x, S' x → S x) → S' w' → wpOrdT P ops Q l L t S' a' w' → K a' w') → if Region.wanted o (yielded ops a.tmps) = true then Oper.wp P o a w K Q else K (a.put o.dst undef) w)
    (h' : ∀ K : Act → World → Prop, (∀ (S' : World → Prop) a' w', (∀ x, S' x → S x) → S' w' → wpOrdT P ops Q l L u S' a' w' → K a' w') → if Region.wanted o' (yielded ops a.tmps) = true then Oper.wp P o' a w K Q else K (a.put o'.dst undef) w) : wpOrdT P ops Q l L (.fork i t j u) S a w :=
  ⟨⟨o, ho, h⟩, ⟨o', ho', h'⟩⟩
theorem wpOrdT_done {l : List Oper} {L : Act → World → Prop} {S : World → Prop} {a : Act} {w : World} (h : L a w) : wpOrdT P ops Q l L .done S a w := h
end
end Go.Proofs.YtacpchapgklcgaaGreatDoor
end
