/- Contract of the proof that two automata make.
Contracts of the laws' sizes and copies of lists of numbers. Lists are short.
Contracts of the laws' copies of lists of lists and of proofs. Lists are short. -/
import Derived.Test.YtacpchapgklcgaaGreatDoorR19
import Derived.Test.YtacpchapgklcgaaGreatDoorR21
import Derived.Test.YtacpchapgklcgaaGreatDoorR02
import Derived.Test.YtacpchapgklcgaaGreatDoorR03
section
set_option linter.unusedSimpArgs false
set_option linter.unusedVariables false
namespace Go.Proofs.YtacpchapgklcgaaGreatDoor
open Go Go.RowKit Go.Proofs
set_option maxHeartbeats 400000
theorem joinThree_c (t u v : Value) (ts xs ys : List Int) (g : Nat) (w : World) (ht : OwnInts 0 w t ts) (hu : OwnInts 0 w u xs) (hv : OwnInts 0 w v ys) (hb : Blk w g 28 #[t, u, v]) (hl : ts.length + xs.length + ys.length ≤ 10000) :
    Calls Tryz.prog 73 #[.slice (some ⟨g, 0, none⟩) 3 3] w fun e w' => ∃ u, e = .returned u ∧ OwnInts w.heap.size w' u (ts ++ xs ++ ys) ∧ Ext w w' := by
  have := joined_c (.slice (some ⟨g, 0, none⟩) 3 3) [ts, xs, ys] [t, u, v] w (blkRow (vs := [t, u, v]) hb (by simp)) (fun i hi => by
    match i, hi with
    | 0, _ => exact ⟨t, rfl, ht.ints, ht.flat⟩
    | 1, _ => exact ⟨u, rfl, hu.ints, hu.flat⟩
    | 2, _ => exact ⟨v, rfl, hv.ints, hv.flat⟩) (by simp) (by simp [tot]; omega)
  simpa using this
theorem own_two0 {w : World} (x y : Int) : OwnInts 0 (w.alloc (.cells #[.int .i64 x, .int .i64 y] 2)) (.slice (some ⟨w.heap.size, 0, none⟩) 2 2) [x, y] :=
  ⟨by simp [ivs], .inr ⟨w.heap.size, 2, #[.int .i64 x, .int .i64 y], rfl, Nat.zero_le _, heap_alloc_new w _, by simp, by unfold maxLen; omega, rfl, by simp [ivs]⟩⟩
def PfRes (w : World) (L R : DfaD) (e : Ending) (w' : World) : Prop :=
  Ext w w' ∧ ∃ u, e = .returned (.agg #[.int .i64 7, u, .slice none 0 0]) ∧ OwnInts w.heap.size w' u ([L.st, R.st] ++ L.nx ++ R.nx)
set_option maxRecDepth 20000 in
set_option maxHeartbeats 4000000 in
theorem proof_c (m : MachD) (L R : DfaD) (rv lv tv : Value) (w : World) (hu : OwnInts 0 w lv L.nx) (ht : OwnInts 0 w tv R.nx) (hl : L.nx.length ≤ 120) (hr : R.nx.length ≤ 120) :
    Calls Tryz.prog 39 #[.agg #[.int .i64 m.sy, .int .i64 m.st, rv, .int .i64 L.st, lv, .int .i64 R.st, tv]] w (PfRes w L R) := by
  obtain ⟨Al, cl, rfl, _, _⟩ := hu.ints.form
  obtain ⟨At, ct, rfl, _, _⟩ := ht.ints.form
  obtain ⟨W, hW⟩ : ∃ W, (w.alloc (.cells #[.int .i64 m.sy, .int .i64 m.st, rv, .int .i64 L.st, .slice Al L.nx.length cl, .int .i64 R.st, .slice At R.nx.length ct] 66)).alloc (.cells #[.int .i64 0, .slice none 0 0, .slice none 0 0] 36) = W := ⟨_, rfl⟩
  have hX : Ext w W := by rw [← hW]; exact (Ext.alloc _ _).trans (Ext.alloc _ _)
  have bA : Blk W w.heap.size 66 #[.int .i64 m.sy, .int .i64 m.st, rv, .int .i64 L.st, .slice Al L.nx.length cl, .int .i64 R.st, .slice At R.nx.length ct] := by rw [← hW]; exact (Blk.new _ _ _ _ rfl).alloc _
  have bP : Blk W (w.heap.size + 1) 36 #[.int .i64 0, .slice none 0 0, .slice none 0 0] := by rw [← hW]; exact Blk.new _ _ _ _ (by simp)
  have zW : W.heap.size = w.heap.size + 1 + 1 := by rw [← hW]; simp
  have oT : OwnInts 0 (W.alloc (.cells #[.int .i64 L.st, .int .i64 R.st] 2)) (.slice (some ⟨W.heap.size, 0, none⟩) 2 2) [L.st, R.st] := own_two0 _ _
  obtain ⟨W2, hW2⟩ : ∃ W2, W.alloc (.cells #[.int .i64 L.st, .int .i64 R.st] 2) = W2 := ⟨_, rfl⟩
  have hX2 : Ext W W2 := by rw [← hW2]; exact Ext.alloc _ _
  have zW2 : W2.heap.size = w.heap.size + 1 + 1 + 1 := by rw [← hW2]; simp; omega
  rw [hW2, zW] at oT
  obtain ⟨W3, hW3⟩ : ∃ W3, W2.alloc (.cells #[.slice (some ⟨w.heap.size + 1 + 1, 0, none⟩) 2 2, .slice Al L.nx.length cl, .slice At R.nx.length ct] 28) = W3 := ⟨_, rfl⟩
  have hX3 : Ext W2 W3 := by rw [← hW3]; exact Ext.alloc _ _
  have bJ : Blk W3 (w.heap.size + 1 + 1 + 1) 28 #[.slice (some ⟨w.heap.size + 1 + 1, 0, none⟩) 2 2, .slice Al L.nx.length cl, .slice At R.nx.length ct] := by rw [← hW3]; exact Blk.new _ _ _ _ zW2
  have hXX := hX.trans (hX2.trans hX3)
  have hj := joinThree_c _ _ _ _ _ _ _ W3 (oT.ext hX3) (hu.ext hXX) (ht.ext hXX) bJ (by simp; omega)
  have hbase : w.heap.size ≤ W3.heap.size := hXX.size
  have bP3 := (bP.ext hX2).ext hX3
  have a3 := bA.cell 3
  have a4 := bA.cell 4
  have a5 := bA.cell 5
  have a6 := bA.cell 6
  simp only [List.getElem?_toArray, List.getElem?_cons_zero, List.getElem?_cons_succ] at a3 a4 a5 a6
  have b3 := hX2.cell a3
  have b4 := hX2.cell a4
  have b5 := hX2.cell a5
  have b6 := hX2.cell a6
  have HV : Hid ((((w.alloc (.cells #[.int .i64 m.sy, .int .i64 m.st, rv, .int .i64 L.st, .slice Al L.nx.length cl, .int .i64 R.st, .slice At R.nx.length ct] 66)).alloc (.cells #[.int .i64 0, .slice none 0 0, .slice none 0 0] 36)).alloc (.cells #[.int .i64 L.st, .int .i64 R.st] 2)).alloc (.cells #[.slice (some ⟨w.heap.size + 1 + 1, 0, none⟩) 2 2, .slice Al L.nx.length cl, .slice At R.nx.length ct] 28) = W3) := by unfold Hid; rw [hW, hW2, hW3]
  rw [← hW2] at b3 b4 b5 b6
  rw [← hW] at a3 a4 a5 a6 b3 b4 b5 b6
  clear hW hW2 hW3 zW zW2 oT bJ
  go_enter Tryz.func39, Tryz.ntmps39
  go_wp2_with fail
  try rw [HV.out]
  clear HV a3 a4 a5 a6 b3 b4 b5 b6
  refine hj.mono ?_
  rintro e w4 ⟨u, rfl, ho, hx4⟩
  have bP4 := bP3.ext hx4
  obtain ⟨Au, cu, rfl, _, _⟩ := ho.ints.form
  generalize hzz : [L.st, R.st] ++ L.nx ++ R.nx = zs at *
  have HZ := Lib.hid hzz
  have g0 := bP4.cell 0
  have g1 := bP4.cell 1
  have g2 := bP4.cell 2
  have f := bP4.frozen
  simp only [List.getElem?_toArray, List.getElem?_cons_zero, List.getElem?_cons_succ] at g0 g1 g2
  have hg : w.heap.size ≤ w.heap.size + 1 := by omega
  have d := (((bP4.set_ 0 (.int .i64 7)).set_ 1 (.slice Au zs.length cu)).set_ 2 (.slice none 0 0)).cell
  have hfar := own_far_blk ho bP4 (by decide)
  have HO := Lib.hid (ownsRow_base (ownsRow_far (ownsRow_far (ownsRow_far ho hfar (.int .i64 7) (p := ⟨w.heap.size + 1, 0, none⟩)) hfar (.slice Au zs.length cu) (p := ⟨w.heap.size + 1, 1, none⟩)) hfar (.slice none 0 0) (p := ⟨w.heap.size + 1, 2, none⟩)) hbase)
  have HXF := Lib.hid ((((hXX.trans hx4).setCell (p := ⟨w.heap.size + 1, 0, none⟩) hg (.int .i64 7)).setCell (p := ⟨w.heap.size + 1, 1, none⟩) hg (.slice Au zs.length cu)).setCell (p := ⟨w.heap.size + 1, 2, none⟩) hg (.slice none 0 0))
  clear hfar ho hzz hj
  go_wp2
  refine bodyPost_ret (v := .agg #[.int .i64 7, .slice Au zs.length cu, .slice none 0 0]) (by simp [results, Tryz.results39, go_sem, d]) rfl ⟨HXF.out, _, rfl, ?_⟩
  rw [HZ.out]
  exact HO.out
end Go.Proofs.YtacpchapgklcgaaGreatDoor
end
section
namespace Go.Proofs.YtacpchapgklcgaaGreatDoor
open Go Go.RowKit Go.Proofs
set_option maxHeartbeats 400000
/-- What is left of a size. -/
def szF (left : Int) (n : Nat) : Int := if left < n then -1 else left - n
theorem szF_no {left : Int} {n : Nat} (h : left < n) : szF left n = -1 := if_pos h
theorem szF_yes {left : Int} {n : Nat} (h : ¬ left < n) : szF left n = left - n := if_neg h
theorem filled1_step {zs : List Int} {k : Nat} {xs : List Value} (h : xs.take k = ivs (zs.take k)) (hk : k < zs.length) (hx : xs.length = zs.length) : (xs.set k (.int .i64 zs[k])).take (k + 1) = ivs (zs.take (k + 1)) := by
  rw [take_set_snoc xs k _ (by omega), h, List.take_succ_eq_append_getElem hk, ivs_append]
  rfl
theorem filled1_end {zs : List Int} {k : Nat} {xs : List Value} (h : xs.take k = ivs (zs.take k)) (hk : zs.length ≤ k) (hx : xs.length = zs.length) : xs = ivs zs := by
  rwa [List.take_of_length_le (by omega), List.take_of_length_le hk] at h
def Filled1 (zs : List Int) (k : Nat) (xs : List Value) : Prop := xs.take k = ivs (zs.take k)
end Go.Proofs.YtacpchapgklcgaaGreatDoor
end
section
namespace Go.Proofs.YtacpchapgklcgaaGreatDoor
open Go Go.RowKit Go.Proofs
set_option maxHeartbeats 400000
theorem rowInfo' : (Tryz.prog.info? 28).map (fun i => (i.zero, i.size, i.bytes)) = some (some (.slice none 0 0), 1, 24) := by kernel_rfl
/-- The first k rows are copied. -/
def RowsTo (b : Nat) (w : World) (xss : List (List Int)) (k : Nat) (vs : List Value) : Prop :=
  (∀ i, (h : i < xss.length) → i < k → ∃ u, vs[i]? = some u ∧ OwnInts b w u xss[i]) ∧
    ∀ (i j : Nat) (u u' : Value) (g : Nat), i < k → j < k → vs[i]? = some u → vs[j]? = some u' → u.ownBlock = some g → u'.ownBlock = some g → i = j
theorem RowsTo.ext {b : Nat} {w w' : World} {xss : List (List Int)} {k : Nat} {vs : List Value} (h : RowsTo b w xss k vs) (he : Ext w w') : RowsTo b w' xss k vs :=
  ⟨fun i hi hk => by obtain ⟨u, e, hu⟩ := h.1 i hi hk; exact ⟨u, e, hu.ext he⟩, h.2⟩
theorem far_of_ne {w : World} {base base' : Nat} {e e' : TypeId} {size size' : Nat} {v v' : Value} {n n' : Nat} {xs xs' : List Value} (h : w.ownsRow base e size v n xs) (h' : w.ownsRow base' e' size' v' n' xs') (hne : e ≠ e') {g : Nat} (hg : v'.ownBlock = some g) : ∀ k, v.ownBlock = some k → k ≠ g := by
  intro k hk he
  rcases own_ne h h' hne with c | c
  · rw [c] at hk; cases hk
  · exact c (by rw [hk, hg, he])
theorem RowsTo.step {g c0 : Nat} {w w2 : World} {xss : List (List Int)} {k n : Nat} {vs : List Value} {u : Value} (h : RowsTo g w xss k vs) (hx : Ext w w2) (ho : w2.ownsRow g 28 1 (.slice (some ⟨g, 0, none⟩) n c0) n vs) (hk : k < xss.length) (hn : k < vs.length)
    (hu : OwnInts w.heap.size w2 u xss[k]) (hb : g ≤ w.heap.size) : RowsTo g (w2.setCell ⟨g, k, none⟩ u) xss (k + 1) (vs.set k u) := by
  have keep : ∀ {b : Nat} {v : Value} {zs : List Int}, OwnInts b w2 v zs → OwnInts b (w2.setCell ⟨g, k, none⟩ u) v zs := fun hv => ownsRow_far (p := ⟨g, k, none⟩) hv (far_of_ne hv ho (by decide) rfl) u
  refine ⟨fun i hi hik => ?_, fun i j x x' b hi hj hxi hxj hb1 hb2 => ?_⟩
  · by_cases c : i = k
    · subst c
      exact ⟨u, List.getElem?_set_self hn, keep (ownsRow_base hu hb)⟩
    · obtain ⟨x, e, hx'⟩ := h.1 i hi (by omega)
      exact ⟨x, by rw [List.getElem?_set_ne (Ne.symm c)]; exact e, keep (hx'.ext hx)⟩
  · have old : ∀ (i : Nat) (x : Value), i < k → vs[i]? = some x → x.ownBlock = some b → b < w.heap.size := fun i x hi hx1 hb1 => by
      obtain ⟨x', e, hx'⟩ := h.1 i (by omega) hi
      rw [hx1] at e
      injection e with e
      subst e
      exact (hx'.lt b hb1).2
    have new : u.ownBlock = some b → w.heap.size ≤ b := fun hb1 => (hu.lt b hb1).1
    by_cases ci : i = k <;> by_cases cj : j = k
    · omega
    · subst ci
      rw [List.getElem?_set_self hn] at hxi
      injection hxi with hxi
      subst hxi
      rw [List.getElem?_set_ne (Ne.symm cj)] at hxj
      have := old j x' (by omega) hxj hb2
      have := new hb1
      omega
    · subst cj
      rw [List.getElem?_set_self hn] at hxj
      injection hxj with hxj
      subst hxj
      rw [List.getElem?_set_ne (Ne.symm ci)] at hxi
      have := old i x (by omega) hxi hb1
      have := new hb2
      omega
    · rw [List.getElem?_set_ne (Ne.symm ci)] at hxi
      rw [List.getElem?_set_ne (Ne.symm cj)] at hxj
      exact h.2 i j x x' b (by omega) (by omega) hxi hxj hb1 hb2
theorem ownsRow_low {w : World} {base : Nat} {e : TypeId} {size : Nat} {v : Value} {n : Nat} {xs : List Value} (h : w.ownsRow base e size v n xs) {p : Addr} (hp : p.block < base) (u : Value) : (w.setCell p u).ownsRow base e size v n xs :=
  ownsRow_far h (fun k hk => by have := (h.lt k hk).1; omega) u
theorem OwnIntRows.low {w : World} {base : Nat} {v : Value} {xss : List (List Int)} (h : OwnIntRows base w v xss) {p : Addr} (hp : p.block < base) (u : Value) : OwnIntRows base (w.setCell p u) v xss := by
  obtain ⟨vs, h1, h2, h3⟩ := h
  exact ⟨vs, ownsRow_low h1 hp u, fun i hi => by obtain ⟨x, e, hx⟩ := h2 i hi; exact ⟨x, e, ownsRow_low hx hp u⟩, h3⟩
theorem OwnIntRows.base {w : World} {base base' : Nat} {v : Value} {xss : List (List Int)} (h : OwnIntRows base w v xss) (hb : base' ≤ base) : OwnIntRows base' w v xss := by
  obtain ⟨vs, h1, h2, h3⟩ := h
  exact ⟨vs, ownsRow_base h1 hb, fun i hi => by obtain ⟨x, e, hx⟩ := h2 i hi; exact ⟨x, e, ownsRow_base hx hb⟩, h3⟩
/-- A proof. -/
structure ProofD where
  k : Int
  ns : List Int
  ws : List (List Int)
deriving DecidableEq
def Prf (w : World) (v : Value) (p : ProofD) : Prop := ∃ nv wv, v = .agg #[.int .i64 p.k, nv, wv] ∧ Ints w nv p.ns ∧ IntRows w wv p.ws
theorem Prf.ext {w w' : World} {v : Value} {p : ProofD} (h : Prf w v p) (he : Ext w w') : Prf w' v p := by
  obtain ⟨nv, wv, hv, h1, h2⟩ := h; exact ⟨nv, wv, hv, h1.ext he, h2.ext he⟩
def prfSize (p : ProofD) : Nat := p.ns.length + (p.ws.length + tot p.ws)
end Go.Proofs.YtacpchapgklcgaaGreatDoor
end
