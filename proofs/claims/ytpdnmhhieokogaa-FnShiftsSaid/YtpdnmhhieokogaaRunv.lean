/- Contracts of the program's makers of a runner and of its configuration. -/
import Derived.Test.YtpdnmhhieokogaaRunu
import Derived.Deep.RegionHeld3
set_option linter.unusedSimpArgs false
set_option linter.unusedVariables false
namespace Go.Proofs.Ytpdnmhhieokogaa
open Go Go.RowKit Go.Proofs
set_option maxHeartbeats 400000
/-- A configuration that has been made. -/
def CfgRes (w : World) (c : ConfD) (e : Ending) (w' : World) : Prop :=
  ∃ lv rv, e = .returned (.agg #[.int .i64 c.q, lv, rv]) ∧ OwnInts w.heap.size w' lv c.l ∧ OwnInts w.heap.size w' rv c.r ∧ (∀ g, lv.ownBlock = some g → rv.ownBlock ≠ some g) ∧ Ext w w'
set_option maxRecDepth 20000 in
set_option maxHeartbeats 1000000 in
theorem config_c (w0 w : World) (b : Nat) (m : MachD) (c : ConfD) (mv lv rv : Value) (h : RunAt w0 w b m c mv lv rv) (hl : c.l.length ≤ 1000) (hn : c.r.length ≤ 1000) :
    Calls Try.prog 20 #[.pointer (some ⟨b, 0, none⟩)] w (CfgRes w c) := by
  obtain ⟨W, hW⟩ : ∃ W, W = w.alloc (.cells #[.int .i64 0, .slice none 0 0, .slice none 0 0] 36) := ⟨_, rfl⟩
  have hXW : Ext w W := by rw [hW]; exact Ext.alloc _ _
  have bO : Blk W w.heap.size 36 #[.int .i64 0, .slice none 0 0, .slice none 0 0] := by rw [hW]; exact Blk.new _ _ _ _ rfl
  have h1 := h.ext hXW
  have hd := h1.ext (Ext.drew W)
  have x3 := h.blk.cell 3
  have x4 := h.blk.cell 4
  have x5 := h.blk.cell 5
  have c3 := h1.blk.cell 3
  have c4 := h1.blk.cell 4
  have c5 := h1.blk.cell 5
  simp only [List.getElem?_toArray, List.getElem?_cons_zero, List.getElem?_cons_succ] at c3 c4 c5 x3 x4 x5
  have e1 : c.l.reverse.reverse = c.l := List.reverse_reverse _
  have e2 : c.r.reverse.reverse = c.r := List.reverse_reverse _
  have RL := fun w h => reversed_c lv c.l.reverse w h h1.l.flat (by simp; omega)
  have RR := fun w h => reversed_c rv c.r.reverse w h h1.r.flat (by simp; omega)
  rw [e1] at RL
  rw [e2] at RR
  have il := hd.l.ints
  have ir := hd.r.ints
  clear e1 e2
  go_enter Try.func20, Try.ntmps20
  go_wp2_with fail
  rw [← hW]
  clear hW
  go_region_held3 (fun w' => w'.cell? ⟨b, 3, none⟩ = some (.int .i64 c.q) ∧ w'.cell? ⟨b, 4, none⟩ = some lv ∧ w'.cell? ⟨b, 5, none⟩ = some rv)
    (first | go_keep | exact ⟨(hS _ _ _).cell x3, (hS _ _ _).cell x4, (hS _ _ _).cell x5⟩ | exact ⟨hE6.cell c3, hE6.cell c4, hE6.cell c5⟩ | exact ⟨hE5.cell c3, hE5.cell c4, hE5.cell c5⟩)
    (first
      | (go_at_call 39; ((with_reducible refine (RL _ il).mono ?_)); rintro e w5 ⟨u5, rfl, ho5, hx5⟩; have hE5 := (Ext.drew W).trans hx5; have ir5 := ir.ext hx5; obtain ⟨A5, k5, rfl, _, _⟩ := ho5.ints.form)
      | (go_at_call 39; ((with_reducible refine (RR _ ir5).mono ?_)); rintro e w6 ⟨u6, rfl, ho6, hx6⟩; have hE6 := hE5.trans hx6; obtain ⟨A6, k6, rfl, _, _⟩ := ho6.ints.form; have bO6 := bO.ext hE6; have z0 := bO6.cell; have z1 := bO6.frozen; have hS := fun x y z => (((hXW.trans hE6).setCell (p := ⟨w.heap.size, 0, none⟩) (Nat.le_refl _) x).setCell (p := ⟨w.heap.size, 1, none⟩) (Nat.le_refl _) y).setCell (p := ⟨w.heap.size, 2, none⟩) (Nat.le_refl _) z))
  all_goals
    have hs1 := hXW.size
    have hs2 := hx5.size
    have hwd : W.drew.heap.size = W.heap.size := rfl
    have hws : w.heap.size < W.heap.size := bO.lt
    have o5 := ho5.ext hx6
    have f5 : ∀ g, (Value.slice A5 c.l.length k5).ownBlock = some g → g ≠ w.heap.size := fun g hg => by have := (o5.lt g hg).1; omega
    have f6 : ∀ g, (Value.slice A6 c.r.length k6).ownBlock = some g → g ≠ w.heap.size := fun g hg => by have := (ho6.lt g hg).1; omega
    have hap : ∀ g, (Value.slice A5 c.l.length k5).ownBlock = some g → (Value.slice A6 c.r.length k6).ownBlock ≠ some g := fun g hg hk => by
      have a1 := (ho5.lt g hg).2
      have a2 := (ho6.lt g hk).1
      omega
    clear hS x3 x4 x5 c3 c4 c5
    go_wp2
    refine bodyPost_ret (v := .agg #[.int .i64 c.q, .slice A5 c.l.length k5, .slice A6 c.r.length k6]) (by simp [results, Try.results20, go_sem, z0]) rfl ⟨_, _, rfl, ?_, ?_, hap, ?_⟩
    · exact ownsRow_base (ownsRow_far (ownsRow_far (ownsRow_far o5 f5 _) f5 _) f5 _) (by omega)
    · exact ownsRow_base (ownsRow_far (ownsRow_far (ownsRow_far ho6 f6 _) f6 _) f6 _) (by omega)
    · exact (((hXW.trans hE6).setCell (p := ⟨w.heap.size, 0, none⟩) (Nat.le_refl _) _).setCell (p := ⟨w.heap.size, 1, none⟩) (Nat.le_refl _) _).setCell (p := ⟨w.heap.size, 2, none⟩) (Nat.le_refl _) _
/-- A runner that has been made. -/
def MadeRun (w : World) (m : MachD) (c : ConfD) (mv : Value) (e : Ending) (w' : World) : Prop :=
  ∃ b lv rv, e = .returned (.pointer (some ⟨b, 0, none⟩)) ∧ RunAt w w' b m c mv lv rv
set_option maxRecDepth 20000 in
set_option maxHeartbeats 1000000 in
theorem runnerOf_c (w : World) (m : MachD) (c : ConfD) (mv lv rv : Value) (hm : Rules w mv m.rules) (h1 : Ints w lv c.l) (h2 : Ints w rv c.r) (f1 : Flat lv) (f2 : Flat rv) (hl : c.l.length ≤ 1000) (hn : c.r.length ≤ 1000) :
    Calls Try.prog 44 #[.agg #[.int .i64 m.sy, .int .i64 m.st, mv], .agg #[.int .i64 c.q, lv, rv]] w (MadeRun w m c mv) := by
  obtain ⟨Am, cm, rfl, _, _⟩ := hm.form
  obtain ⟨Al, cl, rfl, _, _⟩ := h1.form
  obtain ⟨Ar, cr, rfl, _, _⟩ := h2.form
  obtain ⟨W, hW⟩ : ∃ W, W = (w.alloc (.cells #[.int .i64 m.sy, .int .i64 m.st, .slice Am m.rules.length cm] 26)).alloc (.cells #[.int .i64 c.q, .slice Al c.l.length cl, .slice Ar c.r.length cr] 36) := ⟨_, rfl⟩
  have hXW : Ext w W := by rw [hW]; exact (Ext.alloc _ _).trans (Ext.alloc _ _)
  have bM : Blk W w.heap.size 26 #[.int .i64 m.sy, .int .i64 m.st, .slice Am m.rules.length cm] := by rw [hW]; exact (Blk.new _ _ _ _ rfl).alloc _
  have bC : Blk W (w.heap.size + 1) 36 #[.int .i64 c.q, .slice Al c.l.length cl, .slice Ar c.r.length cr] := by rw [hW]; exact Blk.new _ _ _ _ (by simp)
  have m0 := bM.cell 0
  have m1 := bM.cell 1
  have m2 := bM.cell 2
  have c0 := bC.cell 0
  have c1 := bC.cell 1
  have c2 := bC.cell 2
  simp only [List.getElem?_toArray, List.getElem?_cons_zero, List.getElem?_cons_succ] at m0 m1 m2 c0 c1 c2
  have il := (h1.ext hXW).ext (Ext.drew W)
  have ir := (h2.ext hXW).ext (Ext.drew W)
  have RL := fun w h => reversed_c (.slice Al c.l.length cl) c.l w h f1 (by omega)
  have RR := fun w h => reversed_c (.slice Ar c.r.length cr) c.r w h f2 (by omega)
  have hll : c.l.reverse.length = c.l.length := List.length_reverse
  have hrl : c.r.reverse.length = c.r.length := List.length_reverse
  obtain ⟨L, hL⟩ : ∃ L, L = c.l.reverse := ⟨_, rfl⟩
  obtain ⟨R, hR⟩ : ∃ R, R = c.r.reverse := ⟨_, rfl⟩
  rw [← hL] at RL hll
  rw [← hR] at RR hrl
  have HL := Lib.hid hL
  have HR := Lib.hid hR
  clear hL hR hll hrl
  go_enter Try.func44, Try.ntmps44
  go_wp2_with fail
  rw [← hW]
  clear hW
  go_region_held3 (fun w' => w'.cell? ⟨w.heap.size, 0, none⟩ = some (.int .i64 m.sy) ∧ w'.cell? ⟨w.heap.size, 1, none⟩ = some (.int .i64 m.st) ∧ w'.cell? ⟨w.heap.size, 2, none⟩ = some (.slice Am m.rules.length cm) ∧ w'.cell? ⟨w.heap.size + 1, 0, none⟩ = some (.int .i64 c.q) ∧ w'.cell? ⟨w.heap.size + 1, 1, none⟩ = some (.slice Al c.l.length cl) ∧ w'.cell? ⟨w.heap.size + 1, 2, none⟩ = some (.slice Ar c.r.length cr))
    (first | go_keep | exact ⟨(hD _).cell m0, (hD _).cell m1, (hD _).cell m2, (hD _).cell c0, (hD _).cell c1, (hD _).cell c2⟩ | exact ⟨hE6.cell m0, hE6.cell m1, hE6.cell m2, hE6.cell c0, hE6.cell c1, hE6.cell c2⟩ | exact ⟨hE5.cell m0, hE5.cell m1, hE5.cell m2, hE5.cell c0, hE5.cell c1, hE5.cell c2⟩)
    (first
      | (go_at_call 39; ((with_reducible refine (RL _ il).mono ?_)); rintro e w5 ⟨u5, rfl, ho5, hx5⟩; have hE5 := (Ext.drew W).trans hx5; have ir5 := ir.ext hx5; obtain ⟨A5, k5, rfl, _, _⟩ := ho5.ints.form)
      | (go_at_call 39; ((with_reducible refine (RR _ ir5).mono ?_)); rintro e w6 ⟨u6, rfl, ho6, hx6⟩; have hE6 := hE5.trans hx6; obtain ⟨A6, k6, rfl, _, _⟩ := ho6.ints.form; have hD := fun o => hE6.trans (Ext.alloc w6 o)))
  all_goals
    have hs1 := hXW.size
    have hs2 := hx5.size
    have hwd : W.drew.heap.size = W.heap.size := rfl
    have hap : ∀ g, (Value.slice A5 L.length k5).ownBlock = some g → (Value.slice A6 R.length k6).ownBlock ≠ some g := fun g hg hk => by
      have a1 := (ho5.lt g hg).2
      have a2 := (ho6.lt g hk).1
      omega
    have hs6 : w.heap.size ≤ w6.heap.size := (hXW.trans hE6).size
    clear hD m0 m1 m2 c0 c1 c2
    go_wp2
    go_ret
    have hXn : Ext w (w6.alloc (.cells #[.int .i64 m.sy, .int .i64 m.st, .slice Am m.rules.length cm, .int .i64 c.q, .slice A5 L.length k5, .slice A6 R.length k6] 85)) := (hXW.trans hE6).trans (Ext.alloc _ _)
    refine ⟨w6.heap.size, .slice A5 L.length k5, .slice A6 R.length k6, rfl, ⟨Blk.new _ _ _ _ rfl, hm, hXn, ?_, ?_, hap, hs6⟩⟩
    · rw [← HL.out]; exact (ownsRow_base (ho5.ext hx6) (by omega)).alloc _
    · rw [← HR.out]; exact (ownsRow_base ho6 (by omega)).alloc _
end Go.Proofs.Ytpdnmhhieokogaa
