/- Contracts of the laws' copies of machines with several tapes.
Contracts of the laws' copies of lists of rules and of machines with several tapes.
Contracts of the laws' marks in machines with several tapes. -/
import Derived.Test.YtfghojbbofobeaaGreatDoorW44
import Derived.Test.YtfghojbbofobeaaGreatDoorW20
section
set_option linter.unusedVariables false
set_option linter.unusedSimpArgs false
namespace Go.Proofs.YtfghojbbofobeaaGreatDoor
open Go Go.RowKit Go.Proofs
set_option maxHeartbeats 400000
set_option maxRecDepth 20000 in
set_option maxHeartbeats 4000000 in
theorem toMultiRule_c (v : Value) (r : MRuleD) (w : World) (h : MRul w v r) (hn : szR r ≤ 1048576) :
    Calls Tryz.prog 57 #[v] w fun e w' => ∃ vr vw vm, e = .returned (.agg #[.int .i64 r.st, vr, vw, vm, .int .i64 r.nx]) ∧ OwnInts w.heap.size w' vr r.rd ∧ OwnInts w.heap.size w' vw r.wr ∧ OwnInts w.heap.size w' vm r.mv ∧
      (∀ g, vr.ownBlock = some g → vw.ownBlock ≠ some g ∧ vm.ownBlock ≠ some g) ∧ (∀ g, vw.ownBlock = some g → vm.ownBlock ≠ some g) ∧ Ext w w' := by
  obtain ⟨vr, vw, vm, rfl, i1, i2, i3⟩ := h
  unfold szR at hn
  obtain ⟨g, hg⟩ : ∃ g, w.heap.size = g := ⟨_, rfl⟩
  obtain ⟨W, hW⟩ : ∃ W, W = ((w.alloc (.cells #[.int .i64 r.st, vr, vw, vm, .int .i64 r.nx] 98)).alloc (.cells #[.int .i64 0, .slice none 0 0, .slice none 0 0, .slice none 0 0, .int .i64 0] 101)).alloc (.cells #[.int .i64 r.st, .slice none 0 0, .slice none 0 0, .slice none 0 0, .int .i64 0] 101) := ⟨_, rfl⟩
  have hX : Ext w W := by rw [hW]; exact ((Ext.alloc _ _).trans (Ext.alloc _ _)).trans (Ext.alloc _ _)
  have bA : Blk W g 98 #[.int .i64 r.st, vr, vw, vm, .int .i64 r.nx] := by rw [hW]; exact ((Blk.new _ _ _ _ hg).alloc _).alloc _
  have bO : Blk W (g + 1) 101 #[.int .i64 0, .slice none 0 0, .slice none 0 0, .slice none 0 0, .int .i64 0] := by rw [hW]; exact (Blk.new _ _ _ _ (by simp [hg])).alloc _
  have bX : Blk W (g + 1 + 1) 101 #[.int .i64 r.st, .slice none 0 0, .slice none 0 0, .slice none 0 0, .int .i64 0] := by rw [hW]; exact Blk.new _ _ _ _ (by simp [hg])
  have a1 := bA.cell 1
  simp only [List.getElem?_toArray, List.getElem?_cons_zero, List.getElem?_cons_succ] at a1
  have hfar : ∀ {x : World} {cs : Array Value} {b k : Nat} {u : Value} {zs : List Int}, OwnInts b x u zs → Blk x (g + 1 + 1) 101 cs → ∀ y, OwnInts b (x.setCell ⟨g + 1 + 1, k, none⟩ y) u zs := fun {x cs b k u zs} ho hb y =>
    ownsRow_far (p := ⟨g + 1 + 1, k, none⟩) ho (fun q hq e => by subst e; exact blk_ne_row hb ho (by decide) hq.symm) y
  have hfar1 : ∀ {x : World} {cs : Array Value} {b k : Nat} {u : Value} {zs : List Int}, OwnInts b x u zs → Blk x (g + 1) 101 cs → ∀ y, OwnInts b (x.setCell ⟨g + 1, k, none⟩ y) u zs := fun {x cs b k u zs} ho hb y =>
    ownsRow_far (p := ⟨g + 1, k, none⟩) ho (fun q hq e => by subst e; exact blk_ne_row hb ho (by decide) hq.symm) y
  have hWs := hX.size
  have T1 := toInt64S_c _ r.rd W (i1.ext hX) (by omega)
  go_enter Tryz.func57, Tryz.ntmps57
  go_wp2_with fail
  try rw [← hW]
  try rw [hg]
  clear hW a1
  refine T1.mono ?_
  rintro e w1 ⟨u1, rfl, o1, hx1⟩
  obtain ⟨A1, c1, rfl, _, _⟩ := id o1.ints.form
  have bX1 := bX.ext hx1
  obtain ⟨S1, hS1⟩ : ∃ x, x = w1.setCell ⟨g + 1 + 1, 1, none⟩ (.slice A1 r.rd.length c1) := ⟨_, rfl⟩
  have bX1' : Blk S1 (g + 1 + 1) 101 #[.int .i64 r.st, .slice A1 r.rd.length c1, .slice none 0 0, .slice none 0 0, .int .i64 0] := by rw [hS1]; exact bX1.set_ 1 _
  have o1' : OwnInts W.heap.size S1 (.slice A1 r.rd.length c1) r.rd := by rw [hS1]; exact hfar o1 bX1 _
  have bO1 : Blk S1 (g + 1) 101 #[.int .i64 0, .slice none 0 0, .slice none 0 0, .slice none 0 0, .int .i64 0] := by rw [hS1]; exact (bO.ext hx1).far (p := ⟨g + 1 + 1, 1, none⟩) (by show g + 1 ≠ g + 1 + 1; omega) _
  have bA1 : Blk S1 g 98 #[.int .i64 r.st, vr, vw, vm, .int .i64 r.nx] := by rw [hS1]; exact (bA.ext hx1).far (p := ⟨g + 1 + 1, 1, none⟩) (by show g ≠ g + 1 + 1; omega) _
  have hX1 : Ext w S1 := by rw [hS1]; exact (hX.trans hx1).setCell (p := ⟨g + 1 + 1, 1, none⟩) (by show w.heap.size ≤ g + 1 + 1; omega) _
  have hs1 : W.heap.size ≤ S1.heap.size := by rw [hS1, show (w1.setCell ⟨g + 1 + 1, 1, none⟩ (.slice A1 r.rd.length c1)).heap.size = w1.heap.size by simp [World.setCell]]; exact hx1.size
  have hp1lt := o1'.lt
  have T2 := toInt64S_c _ r.wr S1 (i2.ext hX1) (by omega)
  have f1 := bX1.frozen 1
  have e1 := bX1.cell 1
  have a2 := (bA.ext hx1).cell 2
  simp only [List.getElem?_toArray, List.getElem?_cons_zero, List.getElem?_cons_succ] at e1 a2
  clear T1 bX o1
  go_wp2_with fail
  try rw [← hS1]
  clear hS1 f1 e1 a2
  refine T2.mono ?_
  rintro e w2 ⟨u2, rfl, o2, hx2⟩
  obtain ⟨A2, c2, rfl, _, _⟩ := id o2.ints.form
  have bX2 := bX1'.ext hx2
  obtain ⟨S2, hS2⟩ : ∃ x, x = w2.setCell ⟨g + 1 + 1, 2, none⟩ (.slice A2 r.wr.length c2) := ⟨_, rfl⟩
  have bX2' : Blk S2 (g + 1 + 1) 101 #[.int .i64 r.st, .slice A1 r.rd.length c1, .slice A2 r.wr.length c2, .slice none 0 0, .int .i64 0] := by rw [hS2]; exact bX2.set_ 2 _
  have o12 : OwnInts W.heap.size S2 (.slice A1 r.rd.length c1) r.rd := by rw [hS2]; exact hfar (o1'.ext hx2) bX2 _
  have o2' : OwnInts S1.heap.size S2 (.slice A2 r.wr.length c2) r.wr := by rw [hS2]; exact hfar o2 bX2 _
  have bO2 : Blk S2 (g + 1) 101 #[.int .i64 0, .slice none 0 0, .slice none 0 0, .slice none 0 0, .int .i64 0] := by rw [hS2]; exact (bO1.ext hx2).far (p := ⟨g + 1 + 1, 2, none⟩) (by show g + 1 ≠ g + 1 + 1; omega) _
  have bA2 : Blk S2 g 98 #[.int .i64 r.st, vr, vw, vm, .int .i64 r.nx] := by rw [hS2]; exact (bA1.ext hx2).far (p := ⟨g + 1 + 1, 2, none⟩) (by show g ≠ g + 1 + 1; omega) _
  have hX2 : Ext w S2 := by rw [hS2]; exact (hX1.trans hx2).setCell (p := ⟨g + 1 + 1, 2, none⟩) (by show w.heap.size ≤ g + 1 + 1; omega) _
  have hs2 : S1.heap.size ≤ S2.heap.size := by rw [hS2, show (w2.setCell ⟨g + 1 + 1, 2, none⟩ (.slice A2 r.wr.length c2)).heap.size = w2.heap.size by simp [World.setCell]]; exact hx2.size
  have hp2lt := o2'.lt
  have T3 := toInt64S_c _ r.mv S2 (i3.ext hX2) (by omega)
  have f1 := bX2.frozen 2
  have e1 := bX2.cell 2
  have a2 := (bA1.ext hx2).cell 3
  simp only [List.getElem?_toArray, List.getElem?_cons_zero, List.getElem?_cons_succ] at e1 a2
  clear T2 bX1' o1' o2
  go_wp2_with fail
  try rw [← hS2]
  clear hS2 f1 e1 a2
  refine T3.mono ?_
  rintro e w3 ⟨u3, rfl, o3, hx3⟩
  obtain ⟨A3, c3, rfl, _, _⟩ := id o3.ints.form
  have bX3 := bX2'.ext hx3
  have bO3 := bO2.ext hx3
  have p1 := o12.ext hx3
  have p2 := o2'.ext hx3
  have hX3 := hX2.trans hx3
  have ap : (∀ q, (Value.slice A1 r.rd.length c1).ownBlock = some q → (Value.slice A2 r.wr.length c2).ownBlock ≠ some q ∧ (Value.slice A3 r.mv.length c3).ownBlock ≠ some q) ∧ (∀ q, (Value.slice A2 r.wr.length c2).ownBlock = some q → (Value.slice A3 r.mv.length c3).ownBlock ≠ some q) := by
    refine ⟨fun q h1 => ⟨fun h2 => ?_, fun h2 => ?_⟩, fun q h1 h2 => ?_⟩
    · have a := (hp1lt q h1).2
      have b := (p2.lt q h2).1
      omega
    · have a := (hp1lt q h1).2
      have b := (o3.lt q h2).1
      omega
    · have a := (hp2lt q h1).2
      have b := (o3.lt q h2).1
      omega
  have z := bX3.cell
  have zf := bX3.frozen
  have y := bO3.cell
  have yf := bO3.frozen
  have x4 := (bA2.ext hx3).cell 4
  simp only [List.getElem?_toArray, List.getElem?_cons_zero, List.getElem?_cons_succ] at x4
  clear T3 bX2' o12 o2'
  have q0 : Blk ((w3.setCell ⟨g + 1 + 1, 3, none⟩ (.slice A3 r.mv.length c3)).setCell ⟨g + 1 + 1, 4, none⟩ (.int .i64 r.nx)) (g + 1) 101 #[.int .i64 0, .slice none 0 0, .slice none 0 0, .slice none 0 0, .int .i64 0] :=
    (bO3.far (p := ⟨g + 1 + 1, 3, none⟩) (by show g + 1 ≠ g + 1 + 1; omega) _).far (p := ⟨g + 1 + 1, 4, none⟩) (by show g + 1 ≠ g + 1 + 1; omega) _
  have HO : Hid (∀ (b : Nat) (u : Value) (zs : List Int), OwnInts b w3 u zs → OwnInts b ((((((((w3).setCell ⟨g + 1 + 1, 3, none⟩ (.slice A3 r.mv.length c3)).setCell ⟨g + 1 + 1, 4, none⟩ (.int .i64 r.nx)).setCell ⟨g + 1, 0, none⟩ (.int .i64 r.st)).setCell ⟨g + 1, 1, none⟩ (.slice A1 r.rd.length c1)).setCell ⟨g + 1, 2, none⟩ (.slice A2 r.wr.length c2)).setCell ⟨g + 1, 3, none⟩ (.slice A3 r.mv.length c3)).setCell ⟨g + 1, 4, none⟩ (.int .i64 r.nx)) u zs) := Lib.hid fun b u zs h =>
    hfar1 (hfar1 (hfar1 (hfar1 (hfar1 (hfar (hfar h bX3 _) (bX3.set_ 3 _) _) (q0) _) ((q0).set_ 0 _) _) (((q0).set_ 0 _).set_ 1 _) _) ((((q0).set_ 0 _).set_ 1 _).set_ 2 _) _) (((((q0).set_ 0 _).set_ 1 _).set_ 2 _).set_ 3 _) _
  have HX : Hid (Ext w ((((((((w3).setCell ⟨g + 1 + 1, 3, none⟩ (.slice A3 r.mv.length c3)).setCell ⟨g + 1 + 1, 4, none⟩ (.int .i64 r.nx)).setCell ⟨g + 1, 0, none⟩ (.int .i64 r.st)).setCell ⟨g + 1, 1, none⟩ (.slice A1 r.rd.length c1)).setCell ⟨g + 1, 2, none⟩ (.slice A2 r.wr.length c2)).setCell ⟨g + 1, 3, none⟩ (.slice A3 r.mv.length c3)).setCell ⟨g + 1, 4, none⟩ (.int .i64 r.nx))) := Lib.hid ((((((((hX3).setCell (p := ⟨g + 1 + 1, 3, none⟩) (by show w.heap.size ≤ g + 1 + 1; omega) _).setCell (p := ⟨g + 1 + 1, 4, none⟩) (by show w.heap.size ≤ g + 1 + 1; omega) _).setCell (p := ⟨g + 1, 0, none⟩) (by show w.heap.size ≤ g + 1; omega) _).setCell (p := ⟨g + 1, 1, none⟩) (by show w.heap.size ≤ g + 1; omega) _).setCell (p := ⟨g + 1, 2, none⟩) (by show w.heap.size ≤ g + 1; omega) _).setCell (p := ⟨g + 1, 3, none⟩) (by show w.heap.size ≤ g + 1; omega) _).setCell (p := ⟨g + 1, 4, none⟩) (by show w.heap.size ≤ g + 1; omega) _)
  have HAP := Lib.hid ap
  have HP1 := Lib.hid (ownsRow_base p1 hWs)
  have HP2 := Lib.hid (ownsRow_base p2 (Nat.le_trans hWs hs1))
  have HP3 := Lib.hid (ownsRow_base o3 (Nat.le_trans hWs (Nat.le_trans hs1 hs2)))
  have z0 := z 0
  have z1 := z 1
  have z2 := z 2
  have z3 := z 3
  have z4 := z 4
  simp only [List.getElem?_toArray, List.getElem?_cons_zero, List.getElem?_cons_succ] at z0 z1 z2 z3 z4
  clear ap p1 p2 o3 hX3 q0 bA1 bA2 bO1 bO2 bX1 bX2
  go_wp2_with fail
  exact bodyPost_ret (v := .agg #[.int .i64 r.st, .slice A1 r.rd.length c1, .slice A2 r.wr.length c2, .slice A3 r.mv.length c3, .int .i64 r.nx]) (by simp [results, Tryz.results57, go_sem, y]) rfl ⟨_, _, _, rfl, HO.out _ _ _ HP1.out, HO.out _ _ _ HP2.out, HO.out _ _ _ HP3.out, HAP.out.1, HAP.out.2, HX.out⟩
end Go.Proofs.YtfghojbbofobeaaGreatDoor
end
section
set_option linter.unusedVariables false
set_option linter.unusedSimpArgs false
namespace Go.Proofs.YtfghojbbofobeaaGreatDoor
open Go Go.RowKit Go.Proofs
set_option maxHeartbeats 400000
theorem mruleInfoL : (Tryz.prog.info? 101).map (fun i => (i.zero, i.size, i.bytes)) = some (some (.agg #[.int .i64 0, .slice none 0 0, .slice none 0 0, .slice none 0 0, .int .i64 0]), 5, 88) := by kernel_rfl
def set5 (cl : List Value) (a : Nat) (x0 x1 x2 x3 x4 : Value) : List Value := ((((cl.set a x0).set (a + 1) x1).set (a + 2) x2).set (a + 3) x3).set (a + 4) x4
theorem set5_len (cl : List Value) (a : Nat) (x0 x1 x2 x3 x4 : Value) : (set5 cl a x0 x1 x2 x3 x4).length = cl.length := by simp [set5]
theorem set5_far (cl : List Value) (a : Nat) (x0 x1 x2 x3 x4 : Value) {j : Nat} (h : j < a ∨ a + 4 < j) : (set5 cl a x0 x1 x2 x3 x4)[j]? = cl[j]? := by
  unfold set5
  rw [List.getElem?_set_ne (by omega), List.getElem?_set_ne (by omega), List.getElem?_set_ne (by omega), List.getElem?_set_ne (by omega), List.getElem?_set_ne (by omega)]
theorem set5_0 (cl : List Value) (a : Nat) (x0 x1 x2 x3 x4 : Value) (h : a + 4 < cl.length) : (set5 cl a x0 x1 x2 x3 x4)[a]? = some x0 := by
  unfold set5
  rw [List.getElem?_set_ne (by omega), List.getElem?_set_ne (by omega), List.getElem?_set_ne (by omega), List.getElem?_set_ne (by omega), List.getElem?_set_self (by omega)]
theorem set5_1 (cl : List Value) (a : Nat) (x0 x1 x2 x3 x4 : Value) (h : a + 4 < cl.length) : (set5 cl a x0 x1 x2 x3 x4)[a + 1]? = some x1 := by
  unfold set5
  rw [List.getElem?_set_ne (by omega), List.getElem?_set_ne (by omega), List.getElem?_set_ne (by omega), List.getElem?_set_self (by simp; omega)]
theorem set5_2 (cl : List Value) (a : Nat) (x0 x1 x2 x3 x4 : Value) (h : a + 4 < cl.length) : (set5 cl a x0 x1 x2 x3 x4)[a + 2]? = some x2 := by
  unfold set5
  rw [List.getElem?_set_ne (by omega), List.getElem?_set_ne (by omega), List.getElem?_set_self (by simp; omega)]
theorem set5_3 (cl : List Value) (a : Nat) (x0 x1 x2 x3 x4 : Value) (h : a + 4 < cl.length) : (set5 cl a x0 x1 x2 x3 x4)[a + 3]? = some x3 := by
  unfold set5
  rw [List.getElem?_set_ne (by omega), List.getElem?_set_self (by simp; omega)]
theorem set5_4 (cl : List Value) (a : Nat) (x0 x1 x2 x3 x4 : Value) (h : a + 4 < cl.length) : (set5 cl a x0 x1 x2 x3 x4)[a + 4]? = some x4 := by
  unfold set5
  rw [List.getElem?_set_self (by simp; omega)]
/-- The first k rules stand in the cells, their lists in blocks of their own, no two in one. -/
structure FillM (base : Nat) (w : World) (cl : List Value) (rs : List MRuleD) (k : Nat) : Prop where
  len : cl.length = rs.length * 5
  at_ : ∀ i, (h : i < rs.length) → i < k → ∃ vr vw vm, cl[i * 5]? = some (.int .i64 rs[i].st) ∧ cl[i * 5 + 1]? = some vr ∧ cl[i * 5 + 2]? = some vw ∧ cl[i * 5 + 3]? = some vm ∧ cl[i * 5 + 4]? = some (.int .i64 rs[i].nx) ∧ OwnInts base w vr rs[i].rd ∧ OwnInts base w vw rs[i].wr ∧ OwnInts base w vm rs[i].mv
  lt : ∀ (j : Nat) (u : Value) (g : Nat), j < k * 5 → cl[j]? = some u → u.ownBlock = some g → g < w.heap.size
  ap : ∀ (i j : Nat) (u u' : Value) (g : Nat), i < k * 5 → j < k * 5 → i ≠ j → cl[i]? = some u → cl[j]? = some u' → u.ownBlock = some g → u'.ownBlock ≠ some g
theorem FillM.ext {base : Nat} {w w' : World} {cl : List Value} {rs : List MRuleD} {k : Nat} (h : FillM base w cl rs k) (he : Ext w w') : FillM base w' cl rs k :=
  ⟨h.len, fun i hi hk => by
    obtain ⟨a, b, c, e0, e1, e2, e3, e4, o1, o2, o3⟩ := h.at_ i hi hk
    exact ⟨a, b, c, e0, e1, e2, e3, e4, o1.ext he, o2.ext he, o3.ext he⟩, fun j u g hj hu hg => Nat.lt_of_lt_of_le (h.lt j u g hj hu hg) he.size, h.ap⟩
theorem FillM.step {base : Nat} {w w2 w3 : World} {cl : List Value} {rs : List MRuleD} {k : Nat} {r : MRuleD} {vr vw vm : Value} (h : FillM base w cl rs k) (hk : k < rs.length) (hr : rs[k] = r) (hx : Ext w w2) (hb : base ≤ w.heap.size)
    (o1 : OwnInts w.heap.size w2 vr r.rd) (o2 : OwnInts w.heap.size w2 vw r.wr) (o3 : OwnInts w.heap.size w2 vm r.mv)
    (a1 : ∀ g, vr.ownBlock = some g → vw.ownBlock ≠ some g ∧ vm.ownBlock ≠ some g) (a2 : ∀ g, vw.ownBlock = some g → vm.ownBlock ≠ some g)
    (hf : ∀ (b : Nat) (u : Value) (zs : List Int), OwnInts b w2 u zs → OwnInts b w3 u zs) (hs : w2.heap.size ≤ w3.heap.size) :
    FillM base w3 (set5 cl (k * 5) (.int .i64 r.st) vr vw vm (.int .i64 r.nx)) rs (k + 1) := by
  subst hr
  have hl := h.len
  have g0 := set5_0 cl (k * 5) (.int .i64 rs[k].st) vr vw vm (.int .i64 rs[k].nx) (by omega)
  have g1 := set5_1 cl (k * 5) (.int .i64 rs[k].st) vr vw vm (.int .i64 rs[k].nx) (by omega)
  have g2 := set5_2 cl (k * 5) (.int .i64 rs[k].st) vr vw vm (.int .i64 rs[k].nx) (by omega)
  have g3 := set5_3 cl (k * 5) (.int .i64 rs[k].st) vr vw vm (.int .i64 rs[k].nx) (by omega)
  have g4 := set5_4 cl (k * 5) (.int .i64 rs[k].st) vr vw vm (.int .i64 rs[k].nx) (by omega)
  have gf := fun (j : Nat) (hj : j < k * 5) => set5_far cl (k * 5) (.int .i64 rs[k].st) vr vw vm (.int .i64 rs[k].nx) (j := j) (.inl hj)
  have hlen := set5_len cl (k * 5) (.int .i64 rs[k].st) vr vw vm (.int .i64 rs[k].nx)
  generalize set5 cl (k * 5) (.int .i64 rs[k].st) vr vw vm (.int .i64 rs[k].nx) = C at *
  -- what a cell of the new rule may own
  have new : ∀ (j : Nat) (u : Value) (g : Nat), k * 5 ≤ j → j < (k + 1) * 5 → C[j]? = some u → u.ownBlock = some g → w.heap.size ≤ g ∧ g < w2.heap.size ∧ ((j = k * 5 + 1 ∧ u = vr) ∨ (j = k * 5 + 2 ∧ u = vw) ∨ (j = k * 5 + 3 ∧ u = vm)) := by
    intro j u g h1 h2 hu hg
    rcases (show j = k * 5 ∨ j = k * 5 + 1 ∨ j = k * 5 + 2 ∨ j = k * 5 + 3 ∨ j = k * 5 + 4 by omega) with e | e | e | e | e
    · subst e; rw [g0] at hu; injection hu with hu; subst hu; cases hg
    · subst e; rw [g1] at hu; injection hu with hu; subst hu; exact ⟨(o1.lt g hg).1, (o1.lt g hg).2, .inl ⟨rfl, rfl⟩⟩
    · subst e; rw [g2] at hu; injection hu with hu; subst hu; exact ⟨(o2.lt g hg).1, (o2.lt g hg).2, .inr (.inl ⟨rfl, rfl⟩)⟩
    · subst e; rw [g3] at hu; injection hu with hu; subst hu; exact ⟨(o3.lt g hg).1, (o3.lt g hg).2, .inr (.inr ⟨rfl, rfl⟩)⟩
    · subst e; rw [g4] at hu; injection hu with hu; subst hu; cases hg
  refine ⟨by omega, fun i hi hik => ?_, fun j u g hj hu hg => ?_, fun i j u u' g hi hj hij hu hu' hg hg' => ?_⟩
  · by_cases e : i = k
    · subst e
      exact ⟨vr, vw, vm, g0, g1, g2, g3, g4, hf _ _ _ (ownsRow_base o1 hb), hf _ _ _ (ownsRow_base o2 hb), hf _ _ _ (ownsRow_base o3 hb)⟩
    · obtain ⟨a, b, c, e0, e1, e2, e3, e4, p1, p2, p3⟩ := h.at_ i hi (by omega)
      exact ⟨a, b, c, by rw [gf _ (by omega)]; exact e0, by rw [gf _ (by omega)]; exact e1, by rw [gf _ (by omega)]; exact e2, by rw [gf _ (by omega)]; exact e3, by rw [gf _ (by omega)]; exact e4, hf _ _ _ (p1.ext hx), hf _ _ _ (p2.ext hx), hf _ _ _ (p3.ext hx)⟩
  · by_cases c : j < k * 5
    · rw [gf _ c] at hu
      have := h.lt j u g c hu hg
      have := hx.size
      omega
    · have := (new j u g (by omega) hj hu hg).2.1
      omega
  · by_cases c1 : i < k * 5 <;> by_cases c2 : j < k * 5
    · rw [gf _ c1] at hu
      rw [gf _ c2] at hu'
      exact h.ap i j u u' g c1 c2 hij hu hu' hg hg'
    · rw [gf _ c1] at hu
      have := h.lt i u g c1 hu hg
      have := (new j u' g (by omega) hj hu' hg').1
      omega
    · rw [gf _ c2] at hu'
      have := h.lt j u' g c2 hu' hg'
      have := (new i u g (by omega) hi hu hg).1
      omega
    · obtain ⟨_, _, m1⟩ := new i u g (by omega) hi hu hg
      obtain ⟨_, _, m2⟩ := new j u' g (by omega) hj hu' hg'
      rcases m1 with ⟨e1, rfl⟩ | ⟨e1, rfl⟩ | ⟨e1, rfl⟩ <;> rcases m2 with ⟨e2, rfl⟩ | ⟨e2, rfl⟩ | ⟨e2, rfl⟩
      · omega
      · exact (a1 g hg).1 hg'
      · exact (a1 g hg).2 hg'
      · exact (a1 g hg').1 hg
      · omega
      · exact a2 g hg hg'
      · exact (a1 g hg').2 hg
      · exact a2 g hg' hg
      · omega
/-- Rules in a row of their own, each list in a block of its own. -/
def OwnMA (base : Nat) (w : World) (v : Value) (rs : List MRuleD) : Prop := ∃ cl, w.ownsRow base 101 5 v rs.length cl ∧ FillM base w cl rs rs.length
theorem OwnMA.ext {base : Nat} {w w' : World} {v : Value} {rs : List MRuleD} (h : OwnMA base w v rs) (he : Ext w w') : OwnMA base w' v rs := by
  obtain ⟨cl, a, b⟩ := h
  exact ⟨cl, ownsRow_ext a he, b.ext he⟩
theorem OwnMA.own {base : Nat} {w : World} {v : Value} {rs : List MRuleD} (h : OwnMA base w v rs) : OwnMR base w v rs := by
  obtain ⟨cl, a, b⟩ := h
  exact ⟨cl, a, b.len, fun i hi => b.at_ i hi hi⟩
set_option maxRecDepth 20000 in
set_option maxHeartbeats 4000000 in
theorem toMultiRuleS_c (v : Value) (rs : List MRuleD) (w : World) (h : MRules w v rs) (hn : rs.length + totM rs ≤ 1048576) :
    Calls Tryz.prog 28 #[v] w fun e w' => ∃ u, e = .returned u ∧ OwnMA w.heap.size w' u rs ∧ Ext w w' := by
  obtain ⟨A, c, rfl, h2, h3⟩ := h.form
  obtain ⟨i0, hi, hz0, hz1, hz2⟩ := info_parts mruleInfoL
  go_enter Tryz.func28, Tryz.ntmps28
  go_wp2_with (at_make; refine wpList_make_full _ rfl _ _ 31 rfl w.heap.size 101 i0 _ 5 Tryz.underlying31 hi hz0 hz1 .i64 .i64 _ _ rs.length rfl rfl rfl rfl ?c1 ?c2 ?c3 ?_)
  case c1 => rw [hz2]; omega
  case c2 => unfold maxLen; omega
  case c3 => exact Nat.le_refl _
  intro w1 hown hgr
  have hx1 : Ext w w1 := (Ext.refl _).grown hgr (by simp)
  obtain ⟨cs, hown⟩ : ∃ cs, w1.ownsRow w.heap.size 101 5 (.slice (some ⟨w.heap.size, 0, none⟩) rs.length rs.length) rs.length cs := ⟨_, hown⟩
  clear hgr hi hz0 hz1 hz2
  have hsz : w.heap.size < w1.heap.size := (hown.lt _ rfl).2
  generalize hg : w.heap.size = g at *
  have HG := Lib.hid hg
  clear hg
  go_wp2
  go_loopw [4] (fun i wr => ∃ k : Nat, k ≤ rs.length ∧ i = .int .i64 k ∧ Ext w wr ∧ ∃ xs, wr.ownsRow g 101 5 (.slice (some ⟨g, 0, none⟩) rs.length rs.length) rs.length xs ∧ FillM g wr xs rs k) (fun i _ => rs.length - (intOf i).toNat)
  case atStart => exact ⟨0, Nat.zero_le _, rfl, hx1, cs, hown, hown.1, fun i _ hk => by omega, fun j u b hj => by omega, fun i j u u' b hi => by omega⟩
  case round =>
    obtain ⟨k, hk, rfl, hx, xs, ho, hf⟩ := hrel
    by_cases hlt : k < rs.length
    · obtain ⟨b, off, vr, vw, vm, rfl, c0, c1, c2, c3, c4, i1, i2, i3⟩ := h.at hlt
      have d0 := hx.cell c0
      have d1 := hx.cell c1
      have d2 := hx.cell c2
      have d3 := hx.cell c3
      have d4 := hx.cell c4
      have hszr : szR rs[k] ≤ 1048576 := by
        have a := totM_take_succ rs k hlt
        have b := totM_take_le rs (k + 1)
        omega
      have TR := toMultiRule_c (.agg #[.int .i64 rs[k].st, vr, vw, vm, .int .i64 rs[k].nx]) rs[k] wr ⟨vr, vw, vm, rfl, i1.ext hx, i2.ext hx, i3.ext hx⟩ hszr
      have hgw : g ≤ wr.heap.size := Nat.le_of_lt (ho.lt g rfl).2
      obtain ⟨r, hr⟩ : ∃ r, rs[k] = r := ⟨_, rfl⟩
      have HFS : Hid (∀ (w2 w3 : World) (vr vw vm : Value), Ext wr w2 → OwnInts wr.heap.size w2 vr r.rd → OwnInts wr.heap.size w2 vw r.wr → OwnInts wr.heap.size w2 vm r.mv → (∀ g, vr.ownBlock = some g → vw.ownBlock ≠ some g ∧ vm.ownBlock ≠ some g) → (∀ g, vw.ownBlock = some g → vm.ownBlock ≠ some g) →
        (∀ (b : Nat) (u : Value) (zs : List Int), OwnInts b w2 u zs → OwnInts b w3 u zs) → w2.heap.size ≤ w3.heap.size → FillM g w3 (set5 xs (k * 5) (.int .i64 r.st) vr vw vm (.int .i64 r.nx)) rs (k + 1)) :=
        Lib.hid fun w2 w3 vr vw vm hx2 o1 o2 o3 a1 a2 h1 h2 => hf.step hlt hr hx2 hgw o1 o2 o3 a1 a2 h1 h2
      rw [hr] at TR d0 d4
      clear c0 c1 c2 c3 c4 i1 i2 i3 hr hf
      go_wp2_with fail
      refine TR.mono ?_
      rintro e w2 ⟨v1, v2, v3, rfl, o1, o2, o3, a1, a2, hx2⟩
      obtain ⟨B1, f1, rfl, _, _⟩ := id o1.ints.form
      obtain ⟨B2, f2, rfl, _, _⟩ := id o2.ints.form
      obtain ⟨B3, f3, rfl, _, _⟩ := id o3.ints.form
      have ho2 := ownsRow_ext ho hx2
      have hl := ho.1
      have q0 := ho2.cellAt (k * 5) (by omega)
      have q1 := ho2.cellAt (k * 5 + 1) (by omega)
      have q2 := ho2.cellAt (k * 5 + 2) (by omega)
      have q3 := ho2.cellAt (k * 5 + 3) (by omega)
      have q4 := ho2.cellAt (k * 5 + 4) (by omega)
      rw [List.getElem?_eq_getElem (by omega)] at q0 q1 q2 q3 q4
      have z0 := ho2.frozenAt (k * 5)
      have z1 := ho2.frozenAt (k * 5 + 1)
      have z2 := ho2.frozenAt (k * 5 + 2)
      have z3 := ho2.frozenAt (k * 5 + 3)
      have z4 := ho2.frozenAt (k * 5 + 4)
      have hb : w.heap.size ≤ g := Nat.le_of_eq HG.out
      have HKEEP : Hid (∀ (x0 x1 x2 x3 x4 : Value), (∀ (b : Nat) (u : Value) (zs : List Int), OwnInts b w2 u zs → OwnInts b (((((w2.setCell ⟨g, k * 5, none⟩ x0).setCell ⟨g, k * 5 + 1, none⟩ x1).setCell ⟨g, k * 5 + 2, none⟩ x2).setCell ⟨g, k * 5 + 3, none⟩ x3).setCell ⟨g, k * 5 + 4, none⟩ x4) u zs)) := Lib.hid fun x0 x1 x2 x3 x4 b u zs hu => by
        have hne : ∀ q, u.ownBlock = some q → q ≠ g := fun q hq e => by
          rcases own_ne hu ho2 (by decide) with c | c
          · rw [hq] at c; cases c
          · exact c (by rw [hq, e]; rfl)
        exact ownsRow_far (p := ⟨g, k * 5 + 4, none⟩) (ownsRow_far (p := ⟨g, k * 5 + 3, none⟩) (ownsRow_far (p := ⟨g, k * 5 + 2, none⟩) (ownsRow_far (p := ⟨g, k * 5 + 1, none⟩) (ownsRow_far (p := ⟨g, k * 5, none⟩) hu hne _) hne _) hne _) hne _) hne _
      have HO := Lib.hid ho2
      have HXX := Lib.hid (hx.trans hx2)
      have HX2 := Lib.hid hx2
      have HO1 := Lib.hid o1
      have HO2 := Lib.hid o2
      have HO3 := Lib.hid o3
      have HA1 := Lib.hid a1
      have HA2 := Lib.hid a2
      clear d0 d1 d2 d3 d4 TR o1 o2 o3 a1 a2 ho hx hx2
      go_wp2
      go_roundw
      case rel => exact ⟨k + 1, by omega, by go_num, ((((HXX.out.setCell hb _).setCell hb _).setCell hb _).setCell hb _).setCell hb _, _, (((((HO.out.stored (k * 5) _).1.stored (k * 5 + 1) _).1.stored (k * 5 + 2) _).1.stored (k * 5 + 3) _).1.stored (k * 5 + 4) _).1, HFS.out _ _ _ _ _ HX2.out HO1.out HO2.out HO3.out HA1.out HA2.out (HKEEP.out _ _ _ _ _) (by simp [World.setCell])⟩
      case measure => simp [intOf]; omega
    · go_wp2
      go_ret
      obtain rfl : k = rs.length := by omega
      exact ⟨_, rfl, ⟨xs, by rw [HG.out]; exact ho, by rw [HG.out]; exact hf⟩, hx⟩
theorem OwnMA.far {base : Nat} {w : World} {v : Value} {rs : List MRuleD} (h : OwnMA base w v rs) {g : Nat} {t : TypeId} {cs : Array Value} (hb : Blk w g t cs) (h1 : t ≠ 101) (h2 : t ≠ 2) (i : Nat) (u : Value) : OwnMA base (w.setCell ⟨g, i, none⟩ u) v rs := by
  obtain ⟨cl, ho, hc⟩ := h
  have hk : ∀ {b : Nat} {x : Value} {zs : List Int}, OwnInts b w x zs → OwnInts b (w.setCell ⟨g, i, none⟩ u) x zs := fun {b x zs} hx => own_kept hx (grownBy_setCell w ⟨g, i, none⟩ u) (blk_ne_row hb hx h2)
  refine ⟨cl, own_kept ho (grownBy_setCell w ⟨g, i, none⟩ u) (blk_ne_row hb ho h1), hc.len, fun j hj hjk => ?_, fun j x q hj hx hq => ?_, hc.ap⟩
  · obtain ⟨a, b, c, e0, e1, e2, e3, e4, o1, o2, o3⟩ := hc.at_ j hj hjk
    exact ⟨a, b, c, e0, e1, e2, e3, e4, hk o1, hk o2, hk o3⟩
  · have := hc.lt j x q hj hx hq
    simpa [World.setCell] using this
theorem OwnMA.base {base base' : Nat} {w : World} {v : Value} {rs : List MRuleD} (h : OwnMA base w v rs) (hb : base' ≤ base) : OwnMA base' w v rs := by
  obtain ⟨cl, ho, hc⟩ := h
  exact ⟨cl, ownsRow_base ho hb, hc.len, fun j hj hjk => by
    obtain ⟨a, b, c, e0, e1, e2, e3, e4, o1, o2, o3⟩ := hc.at_ j hj hjk
    exact ⟨a, b, c, e0, e1, e2, e3, e4, ownsRow_base o1 hb, ownsRow_base o2 hb, ownsRow_base o3 hb⟩, hc.lt, hc.ap⟩
theorem OwnMA.form {base : Nat} {w : World} {v : Value} {rs : List MRuleD} (h : OwnMA base w v rs) : ∃ A c, v = .slice A rs.length c ∧ rs.length ≤ c ∧ c ≤ 9223372036854775807 := h.own.form
set_option maxRecDepth 20000 in
set_option maxHeartbeats 4000000 in
theorem toMulti_c (v : Value) (m : MultiD) (w : World) (h : Mult w v m) (hn : m.rules.length + totM m.rules ≤ 1048576) :
    Calls Tryz.prog 7 #[v] w fun e w' => ∃ rv, e = .returned (.agg #[.int .i64 m.tp, .int .i64 m.sy, .int .i64 m.st, rv]) ∧ OwnMA w.heap.size w' rv m.rules ∧ Ext w w' := by
  obtain ⟨rv, rfl, hr⟩ := h
  obtain ⟨g, hg⟩ : ∃ g, w.heap.size = g := ⟨_, rfl⟩
  obtain ⟨W, hW⟩ : ∃ W, W = ((w.alloc (.cells #[.int .i64 m.tp, .int .i64 m.sy, .int .i64 m.st, rv] 24)).alloc (.cells #[.int .i64 0, .int .i64 0, .int .i64 0, .slice none 0 0] 33)).alloc (.cells #[.int .i64 m.tp, .int .i64 m.sy, .int .i64 m.st, .slice none 0 0] 33) := ⟨_, rfl⟩
  have hX : Ext w W := by rw [hW]; exact ((Ext.alloc _ _).trans (Ext.alloc _ _)).trans (Ext.alloc _ _)
  have bO : Blk W (g + 1) 33 #[.int .i64 0, .int .i64 0, .int .i64 0, .slice none 0 0] := by rw [hW]; exact (Blk.new _ _ _ _ (by simp [hg])).alloc _
  have bX : Blk W (g + 1 + 1) 33 #[.int .i64 m.tp, .int .i64 m.sy, .int .i64 m.st, .slice none 0 0] := by rw [hW]; exact Blk.new _ _ _ _ (by simp [hg])
  have T1 := toMultiRuleS_c _ m.rules W (hr.ext hX) hn
  have hWs := hX.size
  go_enter Tryz.func7, Tryz.ntmps7
  go_wp2_with fail
  try rw [← hW]
  try rw [hg]
  clear hW
  refine T1.mono ?_
  rintro e w1 ⟨u1, rfl, o1, hx1⟩
  obtain ⟨A1, c1, rfl, _, _⟩ := o1.form
  have bX1 := bX.ext hx1
  have bO1 := bO.ext hx1
  have q0 : Blk (w1.setCell ⟨g + 1 + 1, 3, none⟩ (.slice A1 m.rules.length c1)) (g + 1) 33 #[.int .i64 0, .int .i64 0, .int .i64 0, .slice none 0 0] := bO1.far (p := ⟨g + 1 + 1, 3, none⟩) (by show g + 1 ≠ g + 1 + 1; omega) _
  have HO : Hid (OwnMA w.heap.size ((((((w1).setCell ⟨g + 1 + 1, 3, none⟩ (.slice A1 m.rules.length c1)).setCell ⟨g + 1, 0, none⟩ (.int .i64 m.tp)).setCell ⟨g + 1, 1, none⟩ (.int .i64 m.sy)).setCell ⟨g + 1, 2, none⟩ (.int .i64 m.st)).setCell ⟨g + 1, 3, none⟩ (.slice A1 m.rules.length c1)) (.slice A1 m.rules.length c1) m.rules) := Lib.hid (by
    have h := o1.base hWs
    exact (((((h.far bX1 (by decide) (by decide) 3 _)).far (q0) (by decide) (by decide) 0 _).far ((q0).set_ 0 _) (by decide) (by decide) 1 _).far (((q0).set_ 0 _).set_ 1 _) (by decide) (by decide) 2 _).far ((((q0).set_ 0 _).set_ 1 _).set_ 2 _) (by decide) (by decide) 3 _)
  have HX : Hid (Ext w ((((((w1).setCell ⟨g + 1 + 1, 3, none⟩ (.slice A1 m.rules.length c1)).setCell ⟨g + 1, 0, none⟩ (.int .i64 m.tp)).setCell ⟨g + 1, 1, none⟩ (.int .i64 m.sy)).setCell ⟨g + 1, 2, none⟩ (.int .i64 m.st)).setCell ⟨g + 1, 3, none⟩ (.slice A1 m.rules.length c1))) := Lib.hid (((((((hX.trans hx1)).setCell (p := ⟨g + 1 + 1, 3, none⟩) (by show w.heap.size ≤ g + 1 + 1; omega) _).setCell (p := ⟨g + 1, 0, none⟩) (by show w.heap.size ≤ g + 1; omega) _).setCell (p := ⟨g + 1, 1, none⟩) (by show w.heap.size ≤ g + 1; omega) _).setCell (p := ⟨g + 1, 2, none⟩) (by show w.heap.size ≤ g + 1; omega) _).setCell (p := ⟨g + 1, 3, none⟩) (by show w.heap.size ≤ g + 1; omega) _)
  have z := bX1.cell
  have zf := bX1.frozen
  have y := bO1.cell
  have yf := bO1.frozen
  have z0 := z 0
  have z1 := z 1
  have z2 := z 2
  have z3 := z 3
  simp only [List.getElem?_toArray, List.getElem?_cons_zero, List.getElem?_cons_succ] at z0 z1 z2 z3
  clear T1 o1 q0
  go_wp2_with fail
  exact bodyPost_ret (v := .agg #[.int .i64 m.tp, .int .i64 m.sy, .int .i64 m.st, .slice A1 m.rules.length c1]) (by simp [results, Tryz.results7, go_sem, y]) rfl ⟨_, rfl, HO.out, HX.out⟩
end Go.Proofs.YtfghojbbofobeaaGreatDoor
end
section
set_option linter.unusedVariables false
set_option linter.unusedSimpArgs false
namespace Go.Proofs.YtfghojbbofobeaaGreatDoor
open Go Go.RowKit Go.Proofs
set_option maxHeartbeats 400000
/-- Cells of rules whose lists are of the lengths of the given rules', each in a block of its own below T. -/
structure MarkM (base T : Nat) (w : World) (cl : List Value) (rs : List MRuleD) : Prop where
  len : cl.length = rs.length * 5
  at_ : ∀ i, (h : i < rs.length) → ∃ (vr vw vm : Value) (a b c : List Int) (s t : Int), cl[i * 5]? = some (.int .i64 s) ∧ cl[i * 5 + 1]? = some vr ∧ cl[i * 5 + 2]? = some vw ∧ cl[i * 5 + 3]? = some vm ∧ cl[i * 5 + 4]? = some (.int .i64 t) ∧
    (OwnInts base w vr a ∧ a.length = rs[i].rd.length) ∧ (OwnInts base w vw b ∧ b.length = rs[i].wr.length) ∧ (OwnInts base w vm c ∧ c.length = rs[i].mv.length)
  lt : ∀ (j : Nat) (u : Value) (g : Nat), cl[j]? = some u → u.ownBlock = some g → g < T
  ap : ∀ (i j : Nat) (u u' : Value) (g : Nat), i ≠ j → cl[i]? = some u → cl[j]? = some u' → u.ownBlock = some g → u'.ownBlock ≠ some g
theorem MarkM.of {base : Nat} {w0 w : World} {cl : List Value} {rs : List MRuleD} (h : FillM base w0 cl rs rs.length) (he : Ext w0 w) : MarkM base w0.heap.size w cl rs := by
  refine ⟨h.len, fun i hi => ?_, fun j u g hu hg => ?_, fun i j u u' g hij hu hu' => ?_⟩
  · obtain ⟨a, b, c, e0, e1, e2, e3, e4, o1, o2, o3⟩ := h.at_ i hi hi
    exact ⟨a, b, c, _, _, _, _, _, e0, e1, e2, e3, e4, ⟨o1.ext he, rfl⟩, ⟨o2.ext he, rfl⟩, ⟨o3.ext he, rfl⟩⟩
  · have := (List.getElem?_eq_some_iff.1 hu).1
    exact h.lt j u g (by have := h.len; omega) hu hg
  · have a := (List.getElem?_eq_some_iff.1 hu).1
    have b := (List.getElem?_eq_some_iff.1 hu').1
    have := h.len
    exact h.ap i j u u' g (by omega) (by omega) hij hu hu'
/-- A number of a rule is written. -/
theorem MarkM.setI {base T : Nat} {w w' : World} {cl : List Value} {rs : List MRuleD} (h : MarkM base T w cl rs) {k j : Nat} (hk : k < rs.length) (hj : j = k * 5 ∨ j = k * 5 + 4) (z : Int) (hf : ∀ (b : Nat) (u : Value) (zs : List Int), OwnInts b w u zs → OwnInts b w' u zs) : MarkM base T w' (cl.set j (.int .i64 z)) rs := by
  have hl := h.len
  have get : ∀ (i : Nat) (u : Value), (cl.set j (.int .i64 z))[i]? = some u → (i = j ∧ u = .int .i64 z) ∨ (i ≠ j ∧ cl[i]? = some u) := fun i u hu => by
    by_cases e : i = j
    · subst e
      rw [List.getElem?_set_self (by omega)] at hu
      injection hu with hu
      exact .inl ⟨rfl, hu.symm⟩
    · rw [List.getElem?_set_ne (Ne.symm e)] at hu
      exact .inr ⟨e, hu⟩
  refine ⟨by simp [hl], fun i hi => ?_, fun i u g hu hg => ?_, fun a b u u' g hab hu hu' hg => ?_⟩
  · obtain ⟨vr, vw, vm, a, b, c, s, t, e0, e1, e2, e3, e4, ⟨o1, l1⟩, ⟨o2, l2⟩, ⟨o3, l3⟩⟩ := h.at_ i hi
    have r1 : (cl.set j (.int .i64 z))[i * 5 + 1]? = some vr := by rw [List.getElem?_set_ne (by omega)]; exact e1
    have r2 : (cl.set j (.int .i64 z))[i * 5 + 2]? = some vw := by rw [List.getElem?_set_ne (by omega)]; exact e2
    have r3 : (cl.set j (.int .i64 z))[i * 5 + 3]? = some vm := by rw [List.getElem?_set_ne (by omega)]; exact e3
    have r0 : ∃ s', (cl.set j (.int .i64 z))[i * 5]? = some (.int .i64 s') := by
      by_cases e : j = i * 5
      · subst e; exact ⟨z, List.getElem?_set_self (by omega)⟩
      · exact ⟨s, by rw [List.getElem?_set_ne e]; exact e0⟩
    have r4 : ∃ s', (cl.set j (.int .i64 z))[i * 5 + 4]? = some (.int .i64 s') := by
      by_cases e : j = i * 5 + 4
      · subst e; exact ⟨z, List.getElem?_set_self (by omega)⟩
      · exact ⟨t, by rw [List.getElem?_set_ne e]; exact e4⟩
    obtain ⟨s', r0⟩ := r0
    obtain ⟨t', r4⟩ := r4
    exact ⟨vr, vw, vm, a, b, c, s', t', r0, r1, r2, r3, r4, ⟨hf _ _ _ o1, l1⟩, ⟨hf _ _ _ o2, l2⟩, ⟨hf _ _ _ o3, l3⟩⟩
  · rcases get i u hu with ⟨_, rfl⟩ | ⟨_, hu⟩
    · cases hg
    · exact h.lt i u g hu hg
  · rcases get a u hu with ⟨_, rfl⟩ | ⟨_, hu⟩
    · cases hg
    · rcases get b u' hu' with ⟨_, rfl⟩ | ⟨_, hu'⟩
      · intro e; cases e
      · exact h.ap a b u u' g hab hu hu' hg
/-- A list of a rule is written. -/
theorem MarkM.mark {base T : Nat} {w w' : World} {cl : List Value} {rs : List MRuleD} (h : MarkM base T w cl rs) {j : Nat} {u : Value} {zs zs' : List Int} (hu : cl[j]? = some u) (ho : OwnInts base w u zs) (ho' : OwnInts base w' u zs') (hl : zs'.length = zs.length) (hg : w.grownBy w' u.ownBlock) : MarkM base T w' cl rs := by
  have one : ∀ (i : Nat) (v : Value) (a : List Int) (n : Nat), cl[i]? = some v → OwnInts base w v a ∧ a.length = n → ∃ a', OwnInts base w' v a' ∧ a'.length = n := fun i v a n hv ⟨hv1, hv2⟩ => by
    by_cases e : i = j
    · subst e
      rw [hu] at hv
      injection hv with hv
      subst hv
      obtain ⟨A1, c1, e1, _, _⟩ := ho.ints.form
      obtain ⟨A2, c2, e2, _, _⟩ := hv1.ints.form
      rw [e1] at e2
      injection e2 with _ e3 _
      exact ⟨zs', ho', by omega⟩
    · refine ⟨a, World.ownsRow.kept hv1 hg ?_, hv2⟩
      cases hb : v.ownBlock with
      | none => exact .inl rfl
      | some g => exact .inr fun he => h.ap i j v u g e hv hu hb he.symm
  refine ⟨h.len, fun i hi => ?_, h.lt, h.ap⟩
  obtain ⟨vr, vw, vm, a, b, c, s, t, e0, e1, e2, e3, e4, o1, o2, o3⟩ := h.at_ i hi
  obtain ⟨a', o1⟩ := one _ _ _ _ e1 o1
  obtain ⟨b', o2⟩ := one _ _ _ _ e2 o2
  obtain ⟨c', o3⟩ := one _ _ _ _ e3 o3
  exact ⟨vr, vw, vm, a', b', c', s, t, e0, e1, e2, e3, e4, o1, o2, o3⟩
/-- What lies from T on is as it was. -/
def TopF (T : Nat) (w w' : World) : Prop := ∀ j, T ≤ j → j < w.heap.size → w'.heap[j]? = w.heap[j]?
theorem TopF.refl (T : Nat) (w : World) : TopF T w w := fun _ _ _ => rfl
theorem TopF.grown {T : Nat} {a b c : World} {row : Option Nat} (h : TopF T a b) (hs : a.heap.size ≤ b.heap.size) (hg : b.grownBy c row) (hr : ∀ k, row = some k → k < T) : TopF T a c := fun j h1 h2 =>
  (hg.block j (Nat.lt_of_lt_of_le h2 hs) (fun e => by have := hr j e.symm; omega)).trans (h j h1 h2)
set_option maxRecDepth 20000 in
set_option maxHeartbeats 4000000 in
theorem markMultiRuleS_c (base : Nat) (v : Value) (rs : List MRuleD) (k : Int) (w0 w : World) (h : OwnMA base w0 v rs) (hx : Ext w0 w) (hb : base ≤ w.heap.size) (h0 : 0 ≤ k) (h1 : k + (2 * rs.length + totM rs : Nat) ≤ 4611686018427387904) :
    Calls Tryz.prog 41 #[v, .int .i64 k] w fun e w' => e = .returned (.int .i64 (k + (2 * rs.length + totM rs : Nat))) ∧ Below base w w' ∧ TopF w0.heap.size w w' := by
  obtain ⟨cl, ho, hf⟩ := h
  have hM := MarkM.of hf hx
  have hrT := fun g hg => (ho.lt g hg).2
  have ho := ownsRow_ext ho hx
  clear hf hx
  generalize w0.heap.size = T at *
  obtain ⟨A, c, rfl, _, _, _⟩ := (ownsRow_row ho).form
  go_enter Tryz.func41, Tryz.ntmps41
  go_wp2
  go_loopw [1, 5] (fun q i wr => ∃ (j : Nat) (cl : List Value), j ≤ rs.length ∧ i = .int .i64 j ∧ q = .int .i64 (k + (2 * j + totM (rs.take j) : Nat)) ∧ Below base w wr ∧ TopF T w wr ∧ wr.ownsRow base 101 5 (.slice A rs.length c) rs.length cl ∧ MarkM base T wr cl rs) (fun _ i _ => rs.length - (intOf i).toNat)
  case atStart => exact ⟨0, cl, Nat.zero_le _, rfl, by simp [totM], Below.refl _ _, TopF.refl _ _, ho, hM⟩
  case round =>
    clear ho hM
    obtain ⟨j, cl, hj, rfl, rfl, hB, hT, ho, hM⟩ := hrel
    by_cases hlt : j < rs.length
    · obtain ⟨g, rfl, hbg, hgl⟩ := own_at ho (by omega)
      obtain ⟨vr, vw, vm, a, b, c', s, t, e0, e1, e2, e3, e4, ⟨o1, l1⟩, ⟨o2, l2⟩, ⟨o3, l3⟩⟩ := hM.at_ j hlt
      have hl := ho.1
      have HTS := Lib.hid (totM_take_succ rs j hlt)
      have HTT := Lib.hid (totM_take_succ rs j hlt)
      have hle := totM_take_le rs (j + 1)
      rw [HTS.out] at hle
      have hsz : szR rs[j] = rs[j].rd.length + rs[j].wr.length + rs[j].mv.length := rfl
      obtain ⟨n1, hn1⟩ : ∃ n, rs[j].rd.length = n := ⟨_, rfl⟩
      obtain ⟨n2, hn2⟩ : ∃ n, rs[j].wr.length = n := ⟨_, rfl⟩
      obtain ⟨n3, hn3⟩ : ∃ n, rs[j].mv.length = n := ⟨_, rfl⟩
      rw [hn1] at l1 hsz
      rw [hn2] at l2 hsz
      rw [hn3] at l3 hsz
      rw [hsz] at hle
      subst l1 l2 l3
      have HSZ := Lib.hid hsz
      obtain ⟨z, hz⟩ : ∃ z, k + ((2 * j + totM (rs.take j) : Nat) : Int) = z := ⟨_, rfl⟩
      have HZ := Lib.hid hz
      have hz0 : 0 ≤ z := by omega
      have hz1 : z + 2 + a.length + b.length + c'.length ≤ 4611686018427387904 := by omega
      rw [hz]
      obtain ⟨B1, d1, rfl, _, _⟩ := id o1.ints.form
      obtain ⟨B2, d2, rfl, _, _⟩ := id o2.ints.form
      obtain ⟨B3, d3, rfl, _, _⟩ := id o3.ints.form
      have q0 := ho.cellAt (j * 5) (by omega)
      rw [List.getElem?_eq_getElem (by omega)] at q0
      have z0 := ho.frozenAt (j * 5)
      obtain ⟨S1, hS1⟩ : ∃ x, x = wr.setCell ⟨g, j * 5, none⟩ (.int .i64 z) := ⟨_, rfl⟩
      obtain ⟨s1, t1⟩ := ho.stored (j * 5) (.int .i64 z)
      have keep1 : ∀ (b : Nat) (u : Value) (zs : List Int), OwnInts b wr u zs → OwnInts b S1 u zs := fun b u zs hu => by
        rw [hS1]
        exact World.ownsRow.kept hu t1 (own_ne hu ho (by decide))
      rw [← hS1] at s1 t1
      have M1 := hM.setI hlt (.inl rfl) z keep1
      have bB1 : Below base w S1 := by rw [hS1]; exact hB.setCell (p := ⟨g, j * 5, none⟩) hbg _
      have tT1 := hT.grown hB.size t1 hrT
      have p1 := keep1 _ _ _ o1
      have p2 := keep1 _ _ _ o2
      have p3 := keep1 _ _ _ o3
      have f1 : (cl.set (j * 5) (.int .i64 z))[j * 5 + 1]? = some (.slice B1 a.length d1) := by rw [List.getElem?_set_ne (by omega)]; exact e1
      have f2 : (cl.set (j * 5) (.int .i64 z))[j * 5 + 2]? = some (.slice B2 b.length d2) := by rw [List.getElem?_set_ne (by omega)]; exact e2
      have f3 : (cl.set (j * 5) (.int .i64 z))[j * 5 + 3]? = some (.slice B3 c'.length d3) := by rw [List.getElem?_set_ne (by omega)]; exact e3
      have f4 : (cl.set (j * 5) (.int .i64 z))[j * 5 + 4]? = some (.int .i64 t) := by rw [List.getElem?_set_ne (by omega)]; exact e4
      have hl1 : (cl.set (j * 5) (.int .i64 z)).length = rs.length * 5 := by simp [hl]
      generalize cl.set (j * 5) (.int .i64 z) = C at *
      have x1 : (wr.setCell ⟨g, j * 5, none⟩ (.int .i64 z)).cell? ⟨g, j * 5 + 1, none⟩ = some (.slice B1 a.length d1) := by
        rw [← hS1]
        exact (s1.cellAt (j * 5 + 1) (by omega)).trans f1
      have hbs1 : base ≤ S1.heap.size := Nat.le_trans hb bB1.size
      have MK1 := markInt64S_c base _ a (z + 1) S1 p1 (by omega) (by omega)
      have HD := Lib.hid hS1
      clear hM hB hT o1 o2 o3 e0 e1 e2 e3 e4 keep1 hz HTS hle hsz hn1 hn2 hn3 ho
      go_wp2_with fail
      try rw [← hS1]
      clear hS1 q0 z0 x1
      refine MK1.mono ?_
      rintro e w2 ⟨rfl, r1, g1⟩
      have M2 := M1.mark f1 p1 r1 (by simp) g1
      have s2 := World.ownsRow.kept s1 g1 (own_ne s1 p1 (by decide))
      have bB2 := bB1.grown g1 hbs1 (fun q hq => (p1.lt q hq).1)
      have tT2 := tT1.grown bB1.size g1 (fun q hq => M1.lt _ _ q f1 hq)
      have apt : ∀ {x y : World} {i1 i2 : Nat} {u u' : Value} {zs : List Int}, i1 ≠ i2 → C[i1]? = some u → C[i2]? = some u' → OwnInts base x u zs → x.grownBy y u'.ownBlock → OwnInts base y u zs := fun {x y i1 i2 u u' zs} hne hu hu' ho hg =>
        World.ownsRow.kept ho hg (by
          cases hb : u.ownBlock with
          | none => exact .inl rfl
          | some q => exact .inr fun he => M1.ap _ _ _ _ q hne hu hu' hb he.symm)
      have k2 := apt (by omega) f2 f1 p2 g1
      have k3 := apt (by omega) f3 f1 p3 g1
      have x2 := (s2.cellAt (j * 5 + 2) (by omega)).trans f2
      have hbs2 : base ≤ w2.heap.size := Nat.le_trans hb bB2.size
      have MK2 := markInt64S_c base _ b (z + 1 + a.length) w2 k2 (by omega) (by omega)
      clear MK1 p1 p2 p3 r1 s1 tT1 g1 bB1 t1
      go_wp2_with fail
      refine MK2.mono ?_
      rintro e w3 ⟨rfl, r2, g2⟩
      have M3 := M2.mark f2 k2 r2 (by simp) g2
      have s3 := World.ownsRow.kept s2 g2 (own_ne s2 k2 (by decide))
      have bB3 := bB2.grown g2 hbs2 (fun q hq => (k2.lt q hq).1)
      have tT3 := tT2.grown bB2.size g2 (fun q hq => M2.lt _ _ q f2 hq)
      have m3 := apt (by omega) f3 f2 k3 g2
      have x3 := (s3.cellAt (j * 5 + 3) (by omega)).trans f3
      have hbs3 : base ≤ w3.heap.size := Nat.le_trans hb bB3.size
      have MK3 := markInt64S_c base _ c' (z + 1 + a.length + b.length) w3 m3 (by omega) (by omega)
      clear MK2 k2 k3 r2 s2 tT2 g2 bB2 x2 M2
      go_wp2_with fail
      refine MK3.mono ?_
      rintro e w4 ⟨rfl, r3, g3⟩
      have M4 := M3.mark f3 m3 r3 (by simp) g3
      have s4 := World.ownsRow.kept s3 g3 (own_ne s3 m3 (by decide))
      have bB4 := bB3.grown g3 hbs3 (fun q hq => (m3.lt q hq).1)
      have tT4 := tT3.grown bB3.size g3 (fun q hq => M3.lt _ _ q f3 hq)
      have x4 := (s4.cellAt (j * 5 + 4) (by omega)).trans f4
      have z4 := s4.frozenAt (j * 5 + 4)
      obtain ⟨s5, t5⟩ := s4.stored (j * 5 + 4) (.int .i64 (z + 1 + a.length + b.length + c'.length))
      have M5 := M4.setI (w' := w4.setCell ⟨g, j * 5 + 4, none⟩ (.int .i64 (z + 1 + a.length + b.length + c'.length))) hlt (.inr rfl) (z + 1 + a.length + b.length + c'.length) (fun b u zs hu => World.ownsRow.kept hu t5 (own_ne hu s4 (by decide)))
      have bB5 := bB4.setCell (p := ⟨g, j * 5 + 4, none⟩) hbg (.int .i64 (z + 1 + a.length + b.length + c'.length))
      have tT5 := tT4.grown bB4.size t5 hrT
      have HS5 := Lib.hid s5
      have HM5 := Lib.hid M5
      have HB5 := Lib.hid bB5
      have HT5 := Lib.hid tT5
      have HEND : Hid (z + 1 + a.length + b.length + c'.length + 1 = k + ((2 * (j + 1) + totM (rs.take (j + 1)) : Nat) : Int)) := Lib.hid (by
        have a1 := HZ.out
        have a2 := HTT.out
        have a3 := HSZ.out
        omega)
      clear MK3 m3 r3 s3 tT3 g3 bB3 x3 M3 M4 s5 t5 M5 bB5 tT5 s4 tT4 bB4
      go_wp2_with fail
      go_roundw
      case rel => exact ⟨j + 1, _, by omega, by go_num, by rw [← HEND.out], HB5.out, HT5.out, HS5.out, HM5.out⟩
      case measure => simp [intOf]; omega
    · go_wp2
      go_ret
      obtain rfl : j = rs.length := by omega
      rw [List.take_of_length_le (Nat.le_refl _)]
      exact ⟨rfl, hB, hT⟩
theorem markMulti_c (base : Nat) (x y z : Int) (v : Value) (rs : List MRuleD) (k : Int) (w0 w : World) (h : OwnMA base w0 v rs) (hx : Ext w0 w) (hb : base ≤ w.heap.size) (h0 : 0 ≤ k) (h1 : k + (2 * rs.length + totM rs : Nat) ≤ 4611686018427387904) :
    Calls Tryz.prog 13 #[.agg #[.int .i64 x, .int .i64 y, .int .i64 z, v], .int .i64 k] w fun e w' => e = .returned (.int .i64 (k + (2 * rs.length + totM rs : Nat))) ∧ Below base w w' ∧ TopF w0.heap.size w w' := by
  obtain ⟨A, c, rfl, _, _⟩ := h.form
  have hA := Ext.alloc w (.cells #[.int .i64 x, .int .i64 y, .int .i64 z, .slice A rs.length c] 33)
  have MS := markMultiRuleS_c base _ rs k w0 _ h (hx.trans hA) (Nat.le_trans hb hA.size) h0 h1
  have hbB : Below base w (w.alloc (.cells #[.int .i64 x, .int .i64 y, .int .i64 z, .slice A rs.length c] 33)) := (Below.refl base w).alloc hb _
  obtain ⟨n, hn⟩ : ∃ n, (k + ((2 * rs.length + totM rs : Nat) : Int)) = n := ⟨_, rfl⟩
  rw [hn] at MS ⊢
  clear hn
  go_enter Tryz.func13, Tryz.ntmps13
  go_wp2_with fail
  refine MS.mono ?_
  rintro e w1 ⟨rfl, hB, hT⟩
  have H1 := Lib.hid (Below.trans hbB hB)
  have H2 : Hid (TopF w0.heap.size w w1) := Lib.hid fun j h1 h2 => (hT j h1 (Nat.lt_of_lt_of_le h2 hA.size)).trans (Below.block hA j h2)
  clear MS hB hT
  go_wp2
  go_ret
  exact ⟨rfl, H1.out, H2.out⟩
end Go.Proofs.YtfghojbbofobeaaGreatDoor
end
