/- Contracts on a machine with two automata, continued: the abstraction of a configuration. -/
import Derived.Test.YtkdigfgodjjiaaaGreatAbC
import Derived.Test.YtkdigfgodjjiaaaGreatRevI
import Derived.Test.YtkdigfgodjjiaaaGreatShB
import Derived.Deep.RegionHeld3
set_option linter.unusedSimpArgs false
set_option linter.unusedVariables false
set_option linter.unusedSectionVars false
set_option maxHeartbeats 4000000
namespace Go.Proofs.YtkdigfgodjjiaaaGreat
open Go Go.RowKit Go.Proofs
theorem beyV_flat {w : World} {v : Value} {xs : List Int} (hi : Ints w v xs) (h : Flat v) : Flat (beyV v xs.length) := by
  obtain ⟨A, c, rfl, g1, g2⟩ := hi.form
  rcases h with e | ⟨b, off, k, c', e⟩
  · injection e with e1 e2 e3
    subst e1 e3
    left
    simp only [beyV, e2, if_true]
  · injection e with e1 e2 e3
    subst e1
    right
    by_cases h0 : xs.length = 0
    · exact ⟨b, off, 0, c, by simp only [beyV, h0, if_true]⟩
    · by_cases h1 : c = 1
      · exact ⟨b, off, 0, 0, by simp only [beyV, h0, h1, if_true, if_false]⟩
      · exact ⟨b, off + 1, xs.length - 1, c - 1, by simp [beyV, h0, h1, Addr.add]⟩
/-- An outline as a value. -/
def outV (a : Outl) : Value := .agg #[.int .i64 a.1, .int .i64 a.2.1, .int .i64 a.2.2.1, .int .i64 a.2.2.2]
theorem KSgen {W w8 : World} {g : Nat} {t1 t2 : TypeId} {a0 a1 a2 a3 a4 a5 a6 k0 k1 k2 : Value} (bA : Blk W g t1 #[a0, a1, a2, a3, a4, a5, a6]) (bC : Blk W (g + 1) t2 #[k0, k1, k2]) (hE : Ext W w8) (x y z t : Value) :
    ((((w8.setCell ⟨g + 1 + 1, 0, none⟩ x).setCell ⟨g + 1 + 1, 1, none⟩ y).setCell ⟨g + 1 + 1, 2, none⟩ z).setCell ⟨g + 1 + 1, 3, none⟩ t).cell? ⟨g, 3, none⟩ = some a3 ∧ ((((w8.setCell ⟨g + 1 + 1, 0, none⟩ x).setCell ⟨g + 1 + 1, 1, none⟩ y).setCell ⟨g + 1 + 1, 2, none⟩ z).setCell ⟨g + 1 + 1, 3, none⟩ t).cell? ⟨g, 4, none⟩ = some a4 ∧
    ((((w8.setCell ⟨g + 1 + 1, 0, none⟩ x).setCell ⟨g + 1 + 1, 1, none⟩ y).setCell ⟨g + 1 + 1, 2, none⟩ z).setCell ⟨g + 1 + 1, 3, none⟩ t).cell? ⟨g, 5, none⟩ = some a5 ∧ ((((w8.setCell ⟨g + 1 + 1, 0, none⟩ x).setCell ⟨g + 1 + 1, 1, none⟩ y).setCell ⟨g + 1 + 1, 2, none⟩ z).setCell ⟨g + 1 + 1, 3, none⟩ t).cell? ⟨g, 6, none⟩ = some a6 ∧
    ((((w8.setCell ⟨g + 1 + 1, 0, none⟩ x).setCell ⟨g + 1 + 1, 1, none⟩ y).setCell ⟨g + 1 + 1, 2, none⟩ z).setCell ⟨g + 1 + 1, 3, none⟩ t).cell? ⟨g + 1, 0, none⟩ = some k0 ∧ ((((w8.setCell ⟨g + 1 + 1, 0, none⟩ x).setCell ⟨g + 1 + 1, 1, none⟩ y).setCell ⟨g + 1 + 1, 2, none⟩ z).setCell ⟨g + 1 + 1, 3, none⟩ t).cell? ⟨g + 1, 1, none⟩ = some k1 ∧
    ((((w8.setCell ⟨g + 1 + 1, 0, none⟩ x).setCell ⟨g + 1 + 1, 1, none⟩ y).setCell ⟨g + 1 + 1, 2, none⟩ z).setCell ⟨g + 1 + 1, 3, none⟩ t).cell? ⟨g + 1, 2, none⟩ = some k2 := by
  have na : g ≠ g + 1 + 1 := by omega
  have nc : g + 1 ≠ g + 1 + 1 := by omega
  have hA := ((((bA.ext hE).far (p := ⟨g + 1 + 1, 0, none⟩) na x).far (p := ⟨g + 1 + 1, 1, none⟩) na y).far (p := ⟨g + 1 + 1, 2, none⟩) na z).far (p := ⟨g + 1 + 1, 3, none⟩) na t
  have hC := ((((bC.ext hE).far (p := ⟨g + 1 + 1, 0, none⟩) nc x).far (p := ⟨g + 1 + 1, 1, none⟩) nc y).far (p := ⟨g + 1 + 1, 2, none⟩) nc z).far (p := ⟨g + 1 + 1, 3, none⟩) nc t
  exact ⟨hA.cell 3, hA.cell 4, hA.cell 5, hA.cell 6, hC.cell 0, hC.cell 1, hC.cell 2⟩
set_option maxRecDepth 20000 in
theorem of_c (v lv rv : Value) (m : MachD) (L R : DfaD) (c : ConfD) (w : World) (h : Autos w v m L R) (hm : machOk m = true) (hL : dfaOk L m.sy = true) (hR : dfaOk R m.sy = true)
    (hcl : Ints w lv c.l) (hcr : Ints w rv c.r) (f1 : Flat lv) (f2 : Flat rv) (n1 : c.l.length ≤ 1000) (n2 : c.r.length ≤ 1000) (gl : ∀ z ∈ c.l, 0 ≤ z ∧ z < m.sy) (gr : ∀ z ∈ c.r, 0 ≤ z ∧ z < m.sy) :
    Calls Tryz.prog 29 #[v, .agg #[.int .i64 c.q, lv, rv]] w fun e w' => e = .returned (outV (ofA m L R c)) ∧ Ext w w' := by
  obtain ⟨mv, dv, tv, rfl, h1, h2, h3⟩ := h
  obtain ⟨W, hW⟩ : ∃ W, W = ((w.alloc (.cells #[.int .i64 m.sy, .int .i64 m.st, mv, .int .i64 L.st, dv, .int .i64 R.st, tv] 62)).alloc (.cells #[.int .i64 c.q, lv, rv] 35)).alloc (.cells #[.int .i64 0, .int .i64 0, .int .i64 0, .int .i64 0] 68) := ⟨_, rfl⟩
  have hXW : Ext w W := by rw [hW]; exact ((Ext.alloc _ _).trans (Ext.alloc _ _)).trans (Ext.alloc _ _)
  have bA : Blk W w.heap.size 62 #[.int .i64 m.sy, .int .i64 m.st, mv, .int .i64 L.st, dv, .int .i64 R.st, tv] := by rw [hW]; exact ((Blk.new _ _ _ _ rfl).ext (Ext.alloc _ _)).ext (Ext.alloc _ _)
  have bC : Blk W (w.heap.size + 1) 35 #[.int .i64 c.q, lv, rv] := by rw [hW]; exact (Blk.new _ _ _ _ (by simp)).ext (Ext.alloc _ _)
  have bO : Blk W (w.heap.size + 1 + 1) 68 #[.int .i64 0, .int .i64 0, .int .i64 0, .int .i64 0] := by rw [hW]; exact Blk.new _ _ _ _ (by simp)
  have c0 := bA.cell 0
  have c3 := bA.cell 3
  have c4 := bA.cell 4
  have c5 := bA.cell 5
  have c6 := bA.cell 6
  have k0 := bC.cell 0
  have k1 := bC.cell 1
  have k2 := bC.cell 2
  have x3 := bA.drew.cell 3
  have x4 := bA.drew.cell 4
  have x5 := bA.drew.cell 5
  have x6 := bA.drew.cell 6
  have y0 := bC.drew.cell 0
  have y1 := bC.drew.cell 1
  have y2 := bC.drew.cell 2
  simp only [List.getElem?_toArray, List.getElem?_cons_zero, List.getElem?_cons_succ] at c0 c3 c4 c5 c6 k0 k1 k2 x3 x4 x5 x6 y0 y1 y2
  have hXd := hXW.trans (Ext.drew W)
  have il := hcl.ext hXd
  have RL := fun w h => reversed_c lv c.l w h f1 (by omega)
  have RR := fun w h => reversed_c (beyV rv c.r.length) (c.r.drop 1) w h (beyV_flat hcr f2) (by simp; omega)
  have UL := fun w u hd hz => run_word_c (.agg #[.int .i64 L.st, dv]) u L c.l.reverse m.sy w hd hz hL (fun z hz => gl z (List.mem_reverse.1 hz))
  have UR := fun w u hd hz => run_word_c (.agg #[.int .i64 R.st, tv]) u R (c.r.drop 1).reverse m.sy w hd hz hR (fun z hz => gr z (List.mem_of_mem_drop (List.mem_reverse.1 hz)))
  have na : w.heap.size ≠ w.heap.size + 1 + 1 := by omega
  have nc : w.heap.size + 1 ≠ w.heap.size + 1 + 1 := by omega
  have dL : ∀ w', Ext W w' → Dfas w' (.agg #[.int .i64 L.st, dv]) L := fun w' h => ⟨dv, rfl, (h2.ext hXW).ext h⟩
  have dR : ∀ w', Ext W w' → Dfas w' (.agg #[.int .i64 R.st, tv]) R := fun w' h => ⟨tv, rfl, (h3.ext hXW).ext h⟩
  go_enter Tryz.func29, Tryz.ntmps29
  go_wp2_with fail
  rw [← hW]
  clear hW
  go_wp2_with fail
  go_region_held3 (fun w' => w'.cell? ⟨w.heap.size, 3, none⟩ = some (.int .i64 L.st) ∧ w'.cell? ⟨w.heap.size, 4, none⟩ = some dv ∧ w'.cell? ⟨w.heap.size, 5, none⟩ = some (.int .i64 R.st) ∧ w'.cell? ⟨w.heap.size, 6, none⟩ = some tv ∧ w'.cell? ⟨w.heap.size + 1, 0, none⟩ = some (.int .i64 c.q) ∧ w'.cell? ⟨w.heap.size + 1, 1, none⟩ = some lv ∧ w'.cell? ⟨w.heap.size + 1, 2, none⟩ = some rv)
    (first | (go_keep; done) | with_reducible exact KS.out _ _ _ _ | with_reducible exact (KS.out _ _ _ _).1 | with_reducible exact (KS.out _ _ _ _).2.1 | with_reducible exact (KS.out _ _ _ _).2.2.1 | with_reducible exact (KS.out _ _ _ _).2.2.2.1 | with_reducible exact (KS.out _ _ _ _).2.2.2.2.1 | with_reducible exact (KS.out _ _ _ _).2.2.2.2.2.1 | with_reducible exact (KS.out _ _ _ _).2.2.2.2.2.2 | exact ⟨hE8.cell c3, hE8.cell c4, hE8.cell c5, hE8.cell c6, hE8.cell k0, hE8.cell k1, hE8.cell k2⟩ | exact ⟨hE7.cell c3, hE7.cell c4, hE7.cell c5, hE7.cell c6, hE7.cell k0, hE7.cell k1, hE7.cell k2⟩ | exact ⟨hE6.cell c3, hE6.cell c4, hE6.cell c5, hE6.cell c6, hE6.cell k0, hE6.cell k1, hE6.cell k2⟩ | exact ⟨hE5.cell c3, hE5.cell c4, hE5.cell c5, hE5.cell c6, hE5.cell k0, hE5.cell k1, hE5.cell k2⟩)
    (first
      | (go_at_call 53; ((with_reducible refine (RL _ il).mono ?_)); rintro e w5 ⟨u5, rfl, ho5, hx5⟩; have hE5 := (Ext.drew W).trans hx5; have hi5 := ho5.ints)
      | (go_at_call 37; ((with_reducible refine (UL w5 u5 (dL _ hE5) hi5).mono ?_)); rintro e w6 ⟨rfl, hx6⟩; have hE6 := hE5.trans hx6; have ir6 := (hcr.ext hXW).ext hE6)
      | (go_at_call 54; ((with_reducible refine (symbolAt0_c _ c.r _ ir6).mono ?_)); rintro e w6b ⟨rfl, rfl⟩)
      | (go_at_call 55; ((with_reducible refine (beyond_c _ c.r _ ir6).mono ?_)); rintro e w6c ⟨rfl, rfl⟩; have ib6 := beyV_ints ir6)
      | (go_at_call 53; ((with_reducible refine (RR _ ib6).mono ?_)); rintro e w7 ⟨u7, rfl, ho7, hx7⟩; have hE7 := hE6.trans hx7; have hi7 := ho7.ints)
      | (go_at_call 37; ((with_reducible refine (UR w7 u7 (dR _ hE7) hi7).mono ?_)); rintro e w8 ⟨rfl, hx8⟩; have hE8 := hE7.trans hx8; have bO8 := bO.ext hE8; have z0 := bO8.cell; have z1 := bO8.frozen; have KS := Lib.hid (KSgen bA bC hE8)))
  all_goals
    go_wp2
    refine bodyPost_ret (v := outV (ofA m L R c)) ?_ rfl ⟨rfl, ?_⟩
    · simp [results, Tryz.results29, go_sem, z0, outV, ofA]
    · have hn2 : w.heap.size ≤ w.heap.size + 1 + 1 := by omega
      exact ((((hXW.trans hE8).setCell (p := ⟨w.heap.size + 1 + 1, 0, none⟩) hn2 _).setCell (p := ⟨w.heap.size + 1 + 1, 1, none⟩) hn2 _).setCell (p := ⟨w.heap.size + 1 + 1, 2, none⟩) hn2 _).setCell (p := ⟨w.heap.size + 1 + 1, 3, none⟩) hn2 _
end Go.Proofs.YtkdigfgodjjiaaaGreat
