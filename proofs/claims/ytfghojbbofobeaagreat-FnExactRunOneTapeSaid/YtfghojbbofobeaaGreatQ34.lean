/- Contract of the program's run of a machine by its runner. The machine is valid and the configuration is one of its.
Contract of the program's RunMachine.
Contracts of the reference's step of a machine that is a part of a maker. -/
import Derived.Test.YtfghojbbofobeaaGreatQ33
import Derived.Deep.RegionHeld3
import Derived.Test.YtfghojbbofobeaaGreatQ31
section
set_option linter.unusedSimpArgs false
set_option linter.unusedVariables false
namespace Go.Proofs.YtfghojbbofobeaaGreat
open Go Go.RowKit Go.Proofs Go.Shelf
attribute [local go_sem] Oper.semAt_some
set_option maxHeartbeats 400000
section
variable {w0 : World} {b k : Nat} {m : MachD} {c : ConfD} {mv : Value} {N B : Nat}
theorem FourR.turn {W W' : World} {a e n : Int} {s : Bool} (h : FourR W k a s e n) {row : Option Nat} (hg : W.grownBy W' row) (hr : ∀ r, row = some r → ∃ o : Obj, W.heap[r]? = some o ∧ o.isCells = false) : FourR W' k a s e n := by
  refine ⟨h.b0.kept hg (fun e => ?_), h.b1.kept hg (fun e => ?_), h.b2.kept hg (fun e => ?_), h.b3.kept hg (fun e => ?_)⟩
  · exact not_cells (o := .cells #[] 0) h.b0 (hr _ e.symm)
  · exact not_cells (o := .cells #[] 0) h.b1 (hr _ e.symm)
  · exact not_cells (o := .cells #[] 0) h.b2 (hr _ e.symm)
  · exact not_cells (o := .cells #[] 0) h.b3 (hr _ e.symm)
theorem iRun_own (h0 : w0.heap.size ≤ B) : OwnFrom B (IRun w0 b m mv k) := by
  rintro s W W' row ⟨⟨d, lv, rv, hR, hA⟩, hF, hT⟩ hg hr
  exact ⟨⟨d, lv, rv, hR.turn hg (fun r e => ⟨Nat.le_trans h0 (hr r e).1, (hr r e).2⟩), hA⟩, hF.turn hg (fun r e => (hr r e).2), hT⟩
theorem ixRun_own (h0 : w0.heap.size ≤ B) (cd : Code) : OwnFrom B (IxRun w0 k cd) := by
  rintro s W W' row ⟨h1, h2, ⟨n, hF⟩, hE⟩ hg hr
  exact ⟨h1, h2, ⟨n, hF.turn hg (fun r e => (hr r e).2)⟩, hE.grown hg (fun r e => Nat.le_trans h0 (hr r e).1)⟩
theorem iRun_w (s : List (Int × Bool)) (X Y : World) (h : IRun w0 b m mv k s X) (hw : WrR w0 b m mv X Y) : IRun w0 b m mv k s Y := by
  obtain ⟨⟨d, lv, rv, hR, hA⟩, hF, hT⟩ := h
  obtain ⟨d1, l1, r1, d2, l2, r2, h1, h2, hm⟩ := hw
  obtain ⟨rfl, rfl⟩ := hR.vals h1
  have hlt := hF.lt
  exact ⟨⟨d2, l2, r2, h2, fun i hi => ((hA i hi).moved hm (by omega)).1⟩, hF.same (fun i hi => ((hA i hi).moved hm (by omega)).2), hT⟩
theorem stR_own (h0 : w0.heap.size ≤ B) (pre : List (Int × Bool)) (x : Int × Bool) : OwnFrom B (fun (_ : Unit) W => StR w0 b m c mv N pre x W) := by
  rintro s W W' row ⟨i, lv, rv, hR, h2⟩ hg hr
  exact ⟨i, lv, rv, hR.turn hg (fun r e => ⟨Nat.le_trans h0 (hr r e).1, (hr r e).2⟩), h2⟩
theorem sR_own (h0 : w0.heap.size ≤ B) : OwnFrom B (SR w0 b m c mv N) := by
  rintro s W W' row ⟨i, lv, rv, p, hR, h2⟩ hg hr
  exact ⟨i, lv, rv, p, hR.turn hg (fun r e => ⟨Nat.le_trans h0 (hr r e).1, (hr r e).2⟩), h2⟩
theorem spR_own (h0 : w0.heap.size ≤ B) : OwnFrom B (SpR w0 b m c mv N) := by
  rintro s W W' row ⟨i, lv, rv, p, hR, h2⟩ hg hr
  exact ⟨i, lv, rv, p, hR.turn hg (fun r e => ⟨Nat.le_trans h0 (hr r e).1, (hr r e).2⟩), h2⟩
end
theorem kp_set {w0 W : World} {b bq bp : Nat} {m : MachD} {d : ConfD} {mv lv rv : Value} (h : RunAt w0 W b m d mv lv rv) {p : Addr} (ha : Apt b p.block lv rv) (h0 : w0.heap.size ≤ p.block) (hq : bq ≠ p.block) (hp : bp ≠ p.block) (u : Value) :
    KpR w0 b bq bp m mv W (W.setCell p u) ∧ RunAt w0 (W.setCell p u) b m d mv lv rv := by
  refine ⟨⟨(grownBy_setCell W p u).size, fun d' l' r' h' => ?_, Below.heap_setCell W p u bq hq, Below.heap_setCell W p u bp hp⟩, h.apart ha.nb ha.nl ha.nr h0 u⟩
  obtain ⟨rfl, rfl⟩ := h.vals h'
  exact h'.apart ha.nb ha.nl ha.nr h0 u
theorem FourR.set0 {W : World} {k : Nat} {a e n : Int} {s : Bool} (h : FourR W k a s e n) (x : Int) : FourR (W.setCell ⟨k, 0, none⟩ (.int .i64 x)) k x s e n :=
  ⟨h.b0.set_ 0 _, h.b1.far (by simp) _, h.b2.far (by simp) _, h.b3.far (by simp) _⟩
theorem FourR.set1 {W : World} {k : Nat} {a e n : Int} {s : Bool} (h : FourR W k a s e n) (x : Bool) : FourR (W.setCell ⟨k + 1, 0, none⟩ (.bool x)) k a x e n :=
  ⟨h.b0.far (by simp) _, h.b1.set_ 0 _, h.b2.far (by simp) _, h.b3.far (by simp) _⟩
theorem FourR.set2 {W : World} {k : Nat} {a e n : Int} {s : Bool} (h : FourR W k a s e n) (x : Int) : FourR (W.setCell ⟨k + 1 + 1, 0, none⟩ (.int .i64 x)) k a s x n :=
  ⟨h.b0.far (by show k ≠ k + 1 + 1; omega) _, h.b1.far (by simp) _, h.b2.set_ 0 _, h.b3.far (by simp) _⟩
theorem FourR.set3 {W : World} {k : Nat} {a e n : Int} {s : Bool} (h : FourR W k a s e n) (x : Int) : FourR (W.setCell ⟨k + 1 + 1 + 1, 0, none⟩ (.int .i64 x)) k a s e x :=
  ⟨h.b0.far (by show k ≠ k + 1 + 1 + 1; omega) _, h.b1.far (by show k + 1 ≠ k + 1 + 1 + 1; omega) _, h.b2.far (by simp) _, h.b3.set_ 0 _⟩
set_option maxRecDepth 100000 in
set_option maxHeartbeats 4000000 in
theorem run_c (w0 w : World) (b : Nat) (m : MachD) (c : ConfD) (mv lv rv : Value) (N : Nat) (hN : N ≤ 100000) (hm : machOk m = true) (hg : IGood m c) (hf : fitI c = true) (h : RunAt w0 w b m c mv lv rv) :
    Calls Tryz.prog 32 #[.pointer (some ⟨b, 0, none⟩), .int .i64 N] w (RunOut w0 b m c mv N) := by
  refine (callsIn_wide (n := 8)).1 ?_
  refine callsIn_of_wp_marks Tryz.func32 rfl trivial ?_ rfl
  simp only [Tryz.ntmps32, List.size_toArray, List.length_cons, List.length_nil, Nat.reduceAdd, Nat.reduceSub, Array.replicate_succ, Array.replicate_zero, List.push_toArray, List.append_toArray, List.nil_append, List.cons_append]
  gi_wp2_with (refine ⟨trivial, ?_⟩; gi_at_call 67; refine (callsIn_wide.2 (steps_c _ (N : Int) _ ⟨_, rfl⟩)).mono ?_; rintro e w' ⟨rfl, rfl⟩)
  have hbl := h.blk.lt
  obtain ⟨W, hW⟩ : ∃ W, W = ((((((w.alloc (.cells #[.int .i64 0] 2)).alloc (.cells #[.bool false] 4)).alloc (.cells #[.int .i64 0] 2)).alloc (.cells #[.int .i64 0] 2)).alloc (.cells #[.pointer (some ⟨b, 0, none⟩)] 74)).alloc (.cells #[.int .i64 (N : Int)] 2)) := ⟨_, rfl⟩
  have hXW : Ext w W := by rw [hW]; exact (((((Ext.alloc _ _).trans (Ext.alloc _ _)).trans (Ext.alloc _ _)).trans (Ext.alloc _ _)).trans (Ext.alloc _ _)).trans (Ext.alloc _ _)
  have hF : FourR W w.heap.size 0 false 0 0 := by
    rw [hW]
    exact ⟨((((((Blk.new _ _ _ _ rfl).alloc _).alloc _).alloc _).alloc _).alloc _), (((((Blk.new _ _ _ _ (by simp)).alloc _).alloc _).alloc _).alloc _), ((((Blk.new _ _ _ _ (by simp)).alloc _).alloc _).alloc _), (((Blk.new _ _ _ _ (by simp)).alloc _).alloc _)⟩
  have hR := h.ext hXW
  have hap : ∀ i, w.heap.size ≤ i → Apt b i lv rv := fun i hi => ⟨by omega, fun e => by have := (h.l.lt i e).2; omega, fun e => by have := (h.r.lt i e).2; omega⟩
  have hB : BoxR W b (w.heap.size + 1 + 1 + 1 + 1 + 1) (w.heap.size + 1 + 1 + 1 + 1) N lv rv := by
    have a5 := hap (w.heap.size + 1 + 1 + 1 + 1 + 1) (by omega)
    have a4 := hap (w.heap.size + 1 + 1 + 1 + 1) (by omega)
    refine ⟨?_, ?_, a5.nl, a5.nr, a4.nl, a4.nr, a5.nb, a4.nb⟩
    · rw [hW]; exact Blk.new _ _ _ _ (by simp)
    · rw [hW]; exact (Blk.new _ _ _ _ (by simp)).alloc _
  have hsz : W.heap.size = w.heap.size + 1 + 1 + 1 + 1 + 1 + 1 := by rw [hW]; simp
  rw [← hW]
  clear hW
  have hlow : w0.heap.size ≤ W.heap.size := hR.ext0.size
  obtain ⟨k, hk⟩ : ∃ k, k = w.heap.size := ⟨_, rfl⟩
  rw [← hk] at hF hap hB hsz ⊢
  have hw0k : w0.heap.size ≤ k := by rw [hk]; exact h.ext0.size
  clear hk h
  have h1 : 1 ≤ 8 := by omega
  refine wpIn_rangeFunc_W rfl h1 (gf := 105) (lb := #[.pointer (some ⟨k + 1 + 1 + 1 + 1 + 1, 0, none⟩), .pointer (some ⟨k + 1 + 1 + 1 + 1, 0, none⟩)]) rfl trivial (enters_of Tryz.func105 (by kernel_rfl) rfl)
    (steps1_w (8 - 1) (by omega) w0 W b (k + 1 + 1 + 1 + 1 + 1) (k + 1 + 1 + 1 + 1) m c mv lv rv N hN hm hg hf hR hB) (fun h k => KpR.trans h k) (fun W l o o' hl h1 h2 _ => KpR.turn W l o o' (by omega) (by omega) (by omega) h1 h2) (Below.refl _ _) (fun _ => rfl)
    (fun A B h => WrR.keeps h) (IRun w0 b m mv k) (IxRun w0 k) (iRun_own hlow) (ixRun_own hlow) iRun_w (stR_own hlow) (sR_own hlow) (spR_own hlow)
    ⟨⟨_, lv, rv, hR, fun i _ => hap (k + i) (by omega)⟩, hF, fun x hx => by cases hx⟩
    (fun x => { tmps := #[.pointer (some ⟨b, 0, none⟩), .int .i64 (N : Int), undef, undef, .pointer (some ⟨k, 0, none⟩), .pointer (some ⟨k + 1, 0, none⟩), .pointer (some ⟨k + 1 + 1, 0, none⟩), .pointer (some ⟨k + 1 + 1 + 1, 0, none⟩), .int .i64 x.1, .bool x.2, .pointer (some ⟨b, 0, none⟩), .int .i64 (N : Int), .func (.func 105) #[] #[.pointer (some ⟨k + 1 + 1 + 1 + 1 + 1, 0, none⟩), .pointer (some ⟨k + 1 + 1 + 1 + 1, 0, none⟩)], .int .i64 x.1, .bool x.2, undef, undef, undef, undef, undef, undef], defers := [] }) ?assign ?body ?done ?stop
  case assign =>
    intro l x W K hK
    gi_wp2
    exact hK
  case body =>
    rintro l pre ⟨n, room⟩ W' ⟨⟨d, l1, r1, hR1, hA1⟩, hF1, hT1⟩ hst _
    have c0 := hF1.b0.cell 0
    have c1 := hF1.b1.cell 0
    have c2 := hF1.b2.cell 0
    have c3 := hF1.b3.cell 0
    have f0 := hF1.b0.frozen 0
    have f1 := hF1.b1.frozen 0
    have f2 := hF1.b2.frozen 0
    have f3 := hF1.b3.frozen 0
    simp only [List.getElem?_toArray, List.getElem?_cons_zero] at c0 c1 c2 c3
    have a0 := hA1 0 (by omega)
    have a1 := hA1 1 (by omega)
    have a2 := hA1 2 (by omega)
    have a3 := hA1 3 (by omega)
    cases room with
    | true =>
      gi_wp2
      obtain ⟨hK3, hR3⟩ := kp_set (bq := k + 1 + 1 + 1 + 1 + 1) (bp := k + 1 + 1 + 1 + 1) (p := ⟨k + 1 + 1 + 1, 0, none⟩) hR1 a3 (by show w0.heap.size ≤ k + 1 + 1 + 1; omega) (by show k + 1 + 1 + 1 + 1 + 1 ≠ k + 1 + 1 + 1; omega) (by show k + 1 + 1 + 1 + 1 ≠ k + 1 + 1 + 1; omega) (.int .i64 n)
      refine ⟨(KeepsOthers.setCell _ _ _).from _, hK3, ⟨_, l1, r1, hR3, hA1⟩, by rw [lastN_snoc]; exact hF1.set3 n, fun x hx => ?_⟩
      rcases List.mem_append.1 hx with hx | hx
      · exact hT1 x hx
      · simp at hx; rw [hx]
    | false =>
      gi_wp2
      obtain ⟨hK1, hR2⟩ := kp_set (bq := k + 1 + 1 + 1 + 1 + 1) (bp := k + 1 + 1 + 1 + 1) (p := ⟨k, 0, none⟩) hR1 a0 hw0k (by show k + 1 + 1 + 1 + 1 + 1 ≠ k; omega) (by show k + 1 + 1 + 1 + 1 ≠ k; omega) (.int .i64 0)
      obtain ⟨hK2, hR3⟩ := kp_set (bq := k + 1 + 1 + 1 + 1 + 1) (bp := k + 1 + 1 + 1 + 1) (p := ⟨k + 1, 0, none⟩) hR2 a1 (by show w0.heap.size ≤ k + 1; omega) (by show k + 1 + 1 + 1 + 1 + 1 ≠ k + 1; omega) (by show k + 1 + 1 + 1 + 1 ≠ k + 1; omega) (.bool false)
      obtain ⟨hK3, hR4⟩ := kp_set (bq := k + 1 + 1 + 1 + 1 + 1) (bp := k + 1 + 1 + 1 + 1) (p := ⟨k + 1 + 1, 0, none⟩) hR3 a2 (by show w0.heap.size ≤ k + 1 + 1; omega) (by show k + 1 + 1 + 1 + 1 + 1 ≠ k + 1 + 1; omega) (by show k + 1 + 1 + 1 + 1 ≠ k + 1 + 1; omega) (.int .i64 5)
      exact ⟨(((KeepsOthers.setCell _ _ _).trans (KeepsOthers.setCell _ _ _)).trans (KeepsOthers.setCell _ _ _)).from _, (hK1.trans hK2).trans hK3, rfl, ⟨pre, (n, false), rfl, rfl⟩, ⟨_, ((hF1.set0 0).set1 false).set2 5⟩, hR4.ext0⟩
  case done =>
    rintro D xs W' hD ⟨i, l2, r2, p, hR2, hcase⟩ ⟨⟨d, l1, r1, hR1, hA1⟩, hF1, hT1⟩ hK
    rcases hcase with ⟨rfl, hEnd⟩ | ⟨rfl, _⟩
    · obtain ⟨rfl, rfl⟩ := hR2.vals hR1
      rw [lastN_snoc] at hF1
      have hgi : IGood m (cfgI m c i) := cfg_good hm hg i hEnd.runs.no
      have hfi := fit_both (hEnd.runs.fit i (Nat.le_refl _))
      have hH := fun w' h => halts_c w0 w' b m _ mv l2 r2 h (by omega) hm hgi
      have HEND := Lib.hid hEnd
      have hRd := hR2.ext (Ext.drew W')
      have c3 := hF1.b3.cell 0
      simp only [List.getElem?_toArray, List.getElem?_cons_zero] at c3
      have c3d := (Ext.drew W').cell c3
      gi_wp2
      refine wpIn_wide.2 ?_
      go_region_held3 (fun w' => w'.cell? ⟨k + 1 + 1 + 1, 0, none⟩ = some (.int .i64 (i : Int)))
        (first | go_keep | exact c34 | (rw [World.cell?_setCell_other _ _ _ _ (fun e => by injection e with e; omega)]; exact c34) | (rw [World.cell?_setCell_other _ _ _ _ (fun e => by injection e with e; omega)]; rw [World.cell?_setCell_other _ _ _ _ (fun e => by injection e with e; omega)]; exact c34) | (rw [World.cell?_setCell_other _ _ _ _ (fun e => by injection e with e; omega)]; rw [World.cell?_setCell_other _ _ _ _ (fun e => by injection e with e; omega)]; rw [World.cell?_setCell_other _ _ _ _ (fun e => by injection e with e; omega)]; exact c34))
        (first
          | (go_at_call 68; ((with_reducible refine (hH _ hRd).mono ?_)); rintro e w4 ⟨rfl, hx4⟩; have c34 := hx4.cell c3d; have hF4 := hF1.turn (⟨Below.os ((Ext.drew W').trans hx4), Below.tape ((Ext.drew W').trans hx4), Below.output ((Ext.drew W').trans hx4), Ext.size ((Ext.drew W').trans hx4), fun q hq _ => Below.block ((Ext.drew W').trans hx4) q hq⟩ : W'.grownBy w4 none) (fun r e => by cases e); have z0 := hF4.b0.cell 0; have z1 := hF4.b1.cell 0; have z2 := hF4.b2.cell 0; have y0 := hF4.b0.frozen 0; have y1 := hF4.b1.frozen 0; have y2 := hF4.b2.frozen 0))
      have hE4 := (Ext.drew W').trans hx4
      have hK4 : w4.heap[D]? = some (.deferred (some [])) := hE4.block hK
      have R4 := hRd.ext hx4
      have a0 := hA1 0 (by omega)
      have a1 := hA1 1 (by omega)
      have a2 := hA1 2 (by omega)
      obtain ⟨hb, hhb⟩ : ∃ x, decide (lookI m (cfgI m c i) = noR) = x := ⟨_, rfl⟩
      rw [hhb]
      have HHB := Lib.hid hhb
      clear hhb
      have R5 := R4.apart (p := ⟨k, 0, none⟩) a0.nb a0.nl a0.nr hw0k (.int .i64 (i : Int))
      have R6 := R5.apart (p := ⟨k + 1, 0, none⟩) a1.nb a1.nl a1.nr (by show w0.heap.size ≤ k + 1; omega) (.bool hb)
      have R7 := R6.apart (p := ⟨k + 1 + 1, 0, none⟩) a2.nb a2.nl a2.nr (by show w0.heap.size ≤ k + 1 + 1; omega) (.int .i64 0)
      have F7 := ((hF4.set0 (i : Int)).set1 hb).set2 0
      have K7 := (KeepsOthers.setCell _ ⟨k + 1 + 1, 0, none⟩ (.int .i64 0)).same D _ ((KeepsOthers.setCell _ ⟨k + 1, 0, none⟩ (.bool hb)).same D _ ((KeepsOthers.setCell w4 ⟨k, 0, none⟩ (.int .i64 (i : Int))).same D _ hK4 rfl) rfl) rfl
      clear z0 z1 z2 y0 y1 y2 c34 c3 c3d
      generalize ((w4.setCell ⟨k, 0, none⟩ (.int .i64 (i : Int))).setCell ⟨k + 1, 0, none⟩ (.bool hb)).setCell ⟨k + 1 + 1, 0, none⟩ (.int .i64 0) = W7 at *
      gi_wp2
      refine ⟨by simp, .inl ⟨_, _, rfl, run_takeDeferred K7, ?_⟩⟩
      have hD0 : w0.heap.size ≤ D := by omega
      have hgr := grownBy_putObj' W7 D (.deferred none)
      have hF2 := F7.turn hgr (fun r e => by cases e; exact ⟨_, K7, rfl⟩)
      have e0 := hF2.b0.cell 0
      have e1 := hF2.b1.cell 0
      have e2 := hF2.b2.cell 0
      simp only [List.getElem?_toArray, List.getElem?_cons_zero] at e0 e1 e2
      refine ⟨.tuple #[.int .i64 (i : Int), .bool hb, .int .i64 0], by simp [results, Tryz.f32, go_sem, e0, e1, e2], .inl ⟨i, l2, r2, HEND.out, by rw [HHB.out], ?_⟩⟩
      exact R7.turn hgr (fun r e => by cases e; exact ⟨hD0, _, K7, rfl⟩)
    · exact absurd (hT1 _ (List.mem_append.2 (.inr (List.mem_singleton.2 rfl)))) (by simp)
  case stop =>
    rintro D cd pre W' hD ⟨i, l2, r2, p, hR2, hcase⟩ ⟨rfl, ⟨p', x, hpx, hx2⟩, ⟨n, hF1⟩, hE⟩ hK
    rcases hcase with ⟨rfl, _⟩ | ⟨rfl, hFull⟩
    · have := List.append_inj_right' hpx rfl
      simp at this
      rw [← this] at hx2
      simp at hx2
    · have c0 := hF1.b0.cell 0
      have c1 := hF1.b1.cell 0
      have c2 := hF1.b2.cell 0
      simp only [List.getElem?_toArray, List.getElem?_cons_zero] at c0 c1 c2
      gi_wp2
      refine ⟨by simp, .inl ⟨_, _, rfl, run_takeDeferred hK, ?_⟩⟩
      have hD0 : w0.heap.size ≤ D := by omega
      have hgr := grownBy_putObj' W' D (.deferred none)
      have hF2 := hF1.turn hgr (fun r e => by cases e; exact ⟨_, hK, rfl⟩)
      have e0 := hF2.b0.cell 0
      have e1 := hF2.b1.cell 0
      have e2 := hF2.b2.cell 0
      simp only [List.getElem?_toArray, List.getElem?_cons_zero] at e0 e1 e2
      refine ⟨.tuple #[.int .i64 0, .bool false, .int .i64 5], by simp [results, Tryz.f32, go_sem, e0, e1, e2], .inr ⟨⟨i, hFull⟩, rfl, ?_⟩⟩
      exact hE.grown hgr (fun r e => by cases e; exact hD0)
end Go.Proofs.YtfghojbbofobeaaGreat
end
section
set_option linter.unusedSimpArgs false
set_option linter.unusedVariables false
namespace Go.Proofs.YtfghojbbofobeaaGreat
open Go Go.RowKit Go.Proofs
set_option maxHeartbeats 400000
theorem conf_run {m : MachD} {c : ConfD} (h : confB m c = true) : IGood m c ∧ fitI c = true := by
  simp only [confB, sideOk, inB, Bool.and_eq_true, decide_eq_true_eq, List.all_eq_true] at h
  obtain ⟨⟨hq, ⟨hl1, hl2⟩, _⟩, ⟨hr1, hr2⟩, _⟩ := h
  refine ⟨⟨by omega, by omega, fun z hz => by have := hl2 z hz; omega, fun z hz => by have := hr2 z hz; omega⟩, ?_⟩
  simp [fitI]
  omega
/-- What a run of a machine gives: the configuration, the steps, whether it halts, a code. -/
def RunVal (w w' : World) (x : ConfD) (n : Int) (s : Bool) (k : Int) (e : Ending) : Prop :=
  ∃ lv rv, e = .returned (.tuple #[.agg #[.int .i64 x.q, lv, rv], .int .i64 n, .bool s, .int .i64 k]) ∧ OwnInts w.heap.size w' lv x.l ∧ OwnInts w.heap.size w' rv x.r ∧ (∀ g, lv.ownBlock = some g → rv.ownBlock ≠ some g)
def RunRes (w : World) (m : MachD) (c : ConfD) (n : Int) (e : Ending) (w' : World) : Prop :=
  Ext w w' ∧
    ((((machOk m && confB m c) = false) ∧ RunVal w w' blankC 0 false 1 e) ∨
     (((machOk m && confB m c) = true) ∧ inB n 1 20000 = false ∧ RunVal w w' blankC 0 false 2 e) ∨
     (((machOk m && confB m c) = true) ∧ inB n 1 20000 = true ∧ ∃ i, FullAt m c n.toNat i ∧ RunVal w w' blankC 0 false 5 e) ∨
     (((machOk m && confB m c) = true) ∧ inB n 1 20000 = true ∧ ∃ i : Nat, EndAt m c n.toNat i ∧ RunVal w w' (cfgI m c i) i (decide (lookI m (cfgI m c i) = noR)) 0 e))
theorem RunVal.blank {w w1 : World} {n k : Int} {s : Bool} {b : Nat} (x y z : Value) : RunVal w (((w1.setCell ⟨b, 0, none⟩ x).setCell ⟨b, 1, none⟩ y).setCell ⟨b, 2, none⟩ z) blankC n s k (.returned (.tuple #[.agg #[.int .i64 0, .slice none 0 0, .slice none 0 0], .int .i64 n, .bool s, .int .i64 k])) :=
  ⟨_, _, rfl, World.ownsRow_nil .., World.ownsRow_nil .., fun g hg => by simp [Value.ownBlock] at hg⟩
theorem Ext.three {w w1 : World} {b : Nat} (h : Ext w w1) (hb : w.heap.size ≤ b) (x y z : Value) : Ext w (((w1.setCell ⟨b, 0, none⟩ x).setCell ⟨b, 1, none⟩ y).setCell ⟨b, 2, none⟩ z) :=
  ((h.setCell hb _).setCell hb _).setCell hb _
end Go.Proofs.YtfghojbbofobeaaGreat
end
section
set_option linter.unusedSimpArgs false
set_option linter.unusedVariables false
namespace Go.Proofs.YtfghojbbofobeaaGreat
open Go Go.RowKit Go.Proofs
set_option maxHeartbeats 400000
/-- A machine that is a part of a maker. -/
def MachO (w : World) (b : Nat) (m : MachD) : Prop := ∃ rv, w.cell? ⟨b, 4, none⟩ = some (.int .i64 m.sy) ∧ w.cell? ⟨b, 5, none⟩ = some (.int .i64 m.st) ∧ w.cell? ⟨b, 6, none⟩ = some rv ∧ Rules w rv m.rules
theorem MachO.ext {w w' : World} {b : Nat} {m : MachD} (h : MachO w b m) (he : Ext w w') : MachO w' b m := by
  obtain ⟨rv, h0, h1, h2, h3⟩ := h
  exact ⟨rv, he.cell h0, he.cell h1, he.cell h2, h3.ext he⟩
theorem l05AtO_c (b bc : Nat) (m : MachD) (c : ConfR) (w : World) (hm : MachO w b m) (h : ConfAt w bc c) (q0 : 0 ≤ c.q) (q1 : c.q ≤ 1000) (s0 : 2 ≤ m.sy) (s1 : m.sy ≤ 6) (r0 : 0 ≤ hdR c.r) (r1 : hdR c.r ≤ 6) :
    Calls Tryz.prog 87 #[.pointer (some ⟨b, 4, none⟩), .pointer (some ⟨bc, 0, none⟩)] w fun e w' => e = .returned (.int .i64 (c.q * m.sy + hdR c.r)) ∧ Ext w w' := by
  have hC := h
  obtain ⟨rv, p0, _, _, _⟩ := hm
  obtain ⟨_, _, c0, _, _, _, _⟩ := h
  have d0 := cellR p0
  have d1 := cellR c0
  have hb : 0 ≤ c.q * m.sy ∧ c.q * m.sy ≤ 6000 := ⟨Int.mul_nonneg q0 (by omega), by
    have a1 := Int.mul_le_mul_of_nonneg_right q1 (show 0 ≤ m.sy by omega)
    have a2 := Int.mul_le_mul_of_nonneg_left s1 (show (0 : Int) ≤ 1000 by omega)
    omega⟩
  go_enter Tryz.func87, Tryz.ntmps87
  go_wp2
  refine wp_region_ext (by kernel_rfl) (by kernel_rfl) ?_
  repeat (go_big_quiet_step ((go_at_call 116; exact Calls.sameR (l05Head_c _ _ _ (hC.ext (below_regrown _ _ _))))))
  refine wpQuiet_nil ?_
  intro w2 hx2
  go_wp2
  go_ret
  exact ⟨rfl, hx2⟩
theorem l05AtKO_c (b bc : Nat) (m : MachD) (c : ConfR) (k : Nat) (w : World) (hm : MachO w b m) (h : ConfAt w bc c) (ok : COk m c k) :
    Calls Tryz.prog 87 #[.pointer (some ⟨b, 4, none⟩), .pointer (some ⟨bc, 0, none⟩)] w fun e w' => e = .returned (.int .i64 (k : Int)) ∧ Ext w w' := by
  rw [← ok.ke]
  exact l05AtO_c b bc m c w hm h ok.q0 ok.q1 ok.s0 ok.s1 ok.r0 ok.r1
set_option maxRecDepth 20000 in
theorem l05HaltsO_c (b bc : Nat) (m : MachD) (c : ConfR) (k : Nat) (w : World) (hm : MachO w b m) (h : ConfAt w bc c) (ok : COk m c k) :
    Calls Tryz.prog 51 #[.pointer (some ⟨b, 4, none⟩), .pointer (some ⟨bc, 0, none⟩)] w fun e w' => e = .returned (.bool (decide (m.rules[k]'ok.kl = noR))) ∧ Ext w w' := by
  have hM := hm
  obtain ⟨rv, p0, p1, p2, hr⟩ := hm
  obtain ⟨A, cap, rfl, h2, h2'⟩ := hr.form
  obtain ⟨b', off, rfl, hc⟩ := hr.at ok.kl
  obtain ⟨c0, c1, c2⟩ := hc k ok.kl
  have d0 := cellR c0
  have d1 := cellR c1
  have d2 := cellR c2
  have dM := cellR p2
  have rn := ruleEql_run
  have i1 : (0 : Int) ≤ (k : Int) := by omega
  have i2 : (k : Int) < (m.rules.length : Int) := by have := ok.kl; omega
  have HE : Hid (∀ q, rEq ⟨(m.rules[k]'ok.kl).w, (m.rules[k]'ok.kl).m, (m.rules[k]'ok.kl).n⟩ ⟨0, 0, -1⟩ = q → decide (m.rules[k]'ok.kl = noR) = q) := fun q h => by rw [← h]; rfl
  generalize m.rules[k]'ok.kl = ru at *
  clear c0 c1 c2 hc
  cases hq : rEq ⟨ru.w, ru.m, ru.n⟩ ⟨0, 0, -1⟩
  · go_enter Tryz.func51, Tryz.ntmps51
    go_wp2
    refine wp_region_ext (by kernel_rfl) (by kernel_rfl) ?_
    repeat (go_big_quiet_step ((first | (go_at_call 79; exact Calls.extR (l05None_c _)) | (go_at_call 87; exact Calls.extR (l05AtKO_c _ _ m c k _ (hM.ext (below_regrown _ _ _)) (h.ext (below_regrown _ _ _)) ok)))))
    refine wpQuiet_nil ?_
    intro w2 hx2
    go_wp2
    go_ret
    exact ⟨by rw [HE.out _ hq]; rfl, hx2⟩
  · go_enter Tryz.func51, Tryz.ntmps51
    go_wp2
    refine wp_region_ext (by kernel_rfl) (by kernel_rfl) ?_
    repeat (go_big_quiet_step ((first | (go_at_call 79; exact Calls.extR (l05None_c _)) | (go_at_call 87; exact Calls.extR (l05AtKO_c _ _ m c k _ (hM.ext (below_regrown _ _ _)) (h.ext (below_regrown _ _ _)) ok)))))
    refine wpQuiet_nil ?_
    intro w2 hx2
    go_wp2
    go_ret
    exact ⟨by rw [HE.out _ hq]; rfl, hx2⟩
set_option maxRecDepth 20000 in
set_option maxHeartbeats 4000000 in
theorem l05StepO_c (b bc : Nat) (m : MachD) (c : ConfR) (k : Nat) (w : World) (hm : MachO w b m) (h : ConfAt w bc c) (ok : COk m c k) (hl9 : c.l.length ≤ 200) :
    Calls Tryz.prog 52 #[.pointer (some ⟨b, 4, none⟩), .pointer (some ⟨bc, 0, none⟩)] w fun e w' => ∃ v, e = .returned (.tuple #[v, .bool (decide ((stepC (m.rules[k]'ok.kl) c).l.length ≤ 200) && decide ((stepC (m.rules[k]'ok.kl) c).r.length ≤ 200))]) ∧ ConfV w' v (stepC (m.rules[k]'ok.kl) c) ∧ Ext w w' := by
  obtain ⟨W, hW⟩ : ∃ W, W = w.alloc (.cells #[.int .i64 0, .slice none 0 0, .slice none 0 0] 54) := ⟨_, rfl⟩
  have hX : Ext w W := by rw [hW]; exact Ext.alloc _ _
  have bR : Blk W w.heap.size 54 #[.int .i64 0, .slice none 0 0, .slice none 0 0] := by rw [hW]; exact Blk.new _ _ _ _ rfl
  have hM := hm.ext hX
  have hC := h.ext hX
  have hM0 := hM
  have hM1 := hM.ext (Ext.drew _)
  have hC1 := hC.ext (Ext.drew _)
  have hM2 := (hM.ext (Ext.alloc _ (.cells #[.int .i64 0, .int .i64 0, .int .i64 0] 140))).ext (Ext.drew _)
  have hC2 := (hC.ext (Ext.alloc _ (.cells #[.int .i64 0, .int .i64 0, .int .i64 0] 140))).ext (Ext.drew _)
  obtain ⟨rv, p0, p1, p2, hr⟩ := hM
  obtain ⟨A, cap, rfl, h2, h2'⟩ := hr.form
  obtain ⟨b', off, rfl, hc⟩ := hr.at ok.kl
  obtain ⟨c0, c1, c2⟩ := hc k ok.kl
  have i1 : (0 : Int) ≤ (k : Int) := by omega
  have i2 : (k : Int) < (m.rules.length : Int) := by have := ok.kl; omega
  generalize m.rules[k]'ok.kl = ru at *
  clear hc
  go_enter Tryz.func52, Tryz.ntmps52
  go_wp2_with fail
  rw [← hW]
  clear hW
  go_region_held3 (fun w' => w'.cell? ⟨b, 6, none⟩ = some (.slice (some ⟨b', off, none⟩) m.rules.length cap) ∧ w'.cell? ⟨b', off + k * 3, none⟩ = some (.int .i64 ru.w) ∧ w'.cell? ⟨b', off + k * 3 + 1, none⟩ = some (.int .i64 ru.m) ∧ w'.cell? ⟨b', off + k * 3 + 2, none⟩ = some (.int .i64 ru.n))
    (first | go_keep | exact ⟨t0, t1, t2, t3⟩ | exact ⟨HX3.cell p2, HX3.cell c0, HX3.cell c1, HX3.cell c2⟩)
    (first
      | (go_at_call 87; ((with_reducible refine (l05AtKO_c _ _ m c k _ hM1 hC1 ok).mono ?_)); rintro e w2 ⟨rfl, hx2⟩; have HX2 := (Ext.drew W).trans hx2; have t0 := HX2.cell p2; have t1 := HX2.cell c0; have t2 := HX2.cell c1; have t3 := HX2.cell c2)
      | (go_at_call 87; ((with_reducible refine (l05AtKO_c _ _ m c k _ hM2 hC2 ok).mono ?_)); rintro e w2 ⟨rfl, hx2⟩; have HX2 := ((Ext.alloc W _).trans (Ext.drew _)).trans hx2; have bU := Blk.ext (Blk.ext (Blk.new W W.heap.size 140 #[.int .i64 0, .int .i64 0, .int .i64 0] rfl) (Ext.drew _)) hx2; have u0 := bU.cell 0; have u1 := bU.cell 1; have u2 := bU.cell 2; have f0 := bU.frozen 0; have f1 := bU.frozen 1; have f2 := bU.frozen 2; simp only [List.getElem?_toArray, List.getElem?_cons_zero, List.getElem?_cons_succ] at u0 u1 u2; have HX3 := ((HX2.setCell (p := ⟨W.heap.size, 0, none⟩) (Nat.le_refl _) (.int .i64 ru.w)).setCell (p := ⟨W.heap.size, 1, none⟩) (Nat.le_refl _) (.int .i64 ru.m)).setCell (p := ⟨W.heap.size, 2, none⟩) (Nat.le_refl _) (.int .i64 ru.n); have bV := ((bU.set_ 0 (.int .i64 ru.w)).set_ 1 (.int .i64 ru.m)).set_ 2 (.int .i64 ru.n); have t0 := HX2.cell p2; have t1 := HX2.cell c0; have t2 := HX2.cell c1; have t3 := HX2.cell c2))
  all_goals
    first
      | (show Exit.then _ _ _ _ (w2.alloc _); have HX3 := HX2.trans (Ext.alloc w2 (.cells #[.int .i64 ru.w, .int .i64 ru.m, .int .i64 ru.n] 140)); have bV := Blk.new w2 w2.heap.size 140 #[.int .i64 ru.w, .int .i64 ru.m, .int .i64 ru.n] rfl; generalize w2.alloc (.cells #[.int .i64 ru.w, .int .i64 ru.m, .int .i64 ru.n] 140) = V at *; generalize w2.heap.size = gr at *)
      | (generalize ((w2.setCell ⟨W.heap.size, 0, none⟩ (.int .i64 ru.w)).setCell ⟨W.heap.size, 1, none⟩ (.int .i64 ru.m)).setCell ⟨W.heap.size, 2, none⟩ (.int .i64 ru.n) = V at *; have bV' : Blk V W.heap.size 140 #[.int .i64 ru.w, .int .i64 ru.m, .int .i64 ru.n] := bV; clear bV; have bV := bV'; clear bV' bU u0 u1 u2 f0 f1 f2; generalize W.heap.size = gr at *)
    have hCV := hC.ext HX3
    have bRV := bR.ext HX3
    have hXV := hX.trans HX3
    have hgV := bRV.lt
    clear t0 t1 t2 t3 hM1 hM2 hC1 hC2 p0 p1 p2 c0 c1 c2 hr hx2 HX2 HX3
    obtain ⟨lv, rv, q0, q1, q2, hL, hR⟩ := hCV
    obtain ⟨AL, cL, rfl, _, _⟩ := hL.form
    obtain ⟨AR, cR, rfl, _, _⟩ := hR.form
    have g0 := bV.cell 0
    have g1 := bV.cell 1
    have g2 := bV.cell 2
    simp only [List.getElem?_toArray, List.getElem?_cons_zero, List.getElem?_cons_succ] at g0 g1 g2
    have ll := hl9
    have rl := ok.rl
    have hbc : bc < V.heap.size := World.block_lt_of_cell? V _ q0
    have hgr : gr < V.heap.size := bV.lt
    obtain ⟨V2, hV2⟩ : ∃ X, X = V.alloc (.cells #[.int .i64 ru.n, .slice none 0 0, .slice none 0 0] 54) := ⟨_, rfl⟩
    have EX2 : Ext V V2 := by rw [hV2]; exact Ext.alloc _ _
    have bO2 : Blk V2 V.heap.size 54 #[.int .i64 ru.n, .slice none 0 0, .slice none 0 0] := by rw [hV2]; exact Blk.new _ _ _ _ rfl
    have q2' := EX2.cell q2
    go_wp2_with fail
    rw [← hV2]
    clear hV2
    refine (l05Rest_c _ _ _ (hR.ext EX2) (by omega)).mono ?_
    rintro e w3 ⟨ur, rfl, ho3, hx3⟩
    obtain ⟨dr, hdr⟩ : ∃ d, d = List.drop 1 c.r := ⟨_, rfl⟩
    have hdl : dr.length ≤ 1000 := by rw [hdr]; simp; omega
    rw [← hdr] at ho3
    have HDR := Lib.hid hdr
    clear hdr
    have EX3 := EX2.trans hx3
    have bO3 := bO2.ext hx3
    obtain ⟨Au, cu, rfl, _, _⟩ := ho3.ints.form
    clear q2'
    by_cases hmv : 0 < ru.m
    · have e1 := EX3.cell g1
      have e0 := EX3.cell g0
      have eq1 := EX3.cell q1
      have hL4 := (hL.ext EX3).ext (Ext.drew _)
      have ne1 : gr ≠ V.heap.size := by omega
      have ne2 : bc ≠ V.heap.size := by omega
      go_wp2_with fail
      go_region_held3 (fun w' => w'.cell? ⟨gr, 0, none⟩ = some (.int .i64 ru.w) ∧ w'.cell? ⟨bc, 1, none⟩ = some (.slice AL c.l.length cL))
        (first | go_keep | exact ⟨EX4.cell g0, EX4.cell q1⟩ | exact ⟨EX5.cell g0, EX5.cell q1⟩)
        ((go_at_call 89; ((with_reducible refine (l05Push_c ru.w _ c.l _ hL4 (by omega)).mono ?_)); rintro e w4 ⟨ul, rfl, ho4, hx4⟩; obtain ⟨Al4, cl4, rfl, _, _⟩ := ho4.ints.form; have EX4 := (EX3.trans (Ext.drew w3)).trans hx4; have bO4 := Blk.ext (Blk.ext bO3 (Ext.drew w3)) hx4; have o1 := bO4.cell 1; have of1 := bO4.frozen 1; have EX5 := EX4.setCell (p := ⟨V.heap.size, 1, none⟩) (Nat.le_refl _) (.slice Al4 (trim (ru.w :: c.l)).length cl4); have bO5 := bO4.set_ 1 (.slice Al4 (trim (ru.w :: c.l)).length cl4); simp only [List.getElem?_toArray, List.getElem?_cons_zero, List.getElem?_cons_succ] at o1))
      all_goals
        have o4 : OwnInts _ _ _ _ := ownsRow_far ho4 (own_far_blk ho4 bO4 (by decide)) (.slice Al4 (trim (ru.w :: c.l)).length cl4) (p := ⟨V.heap.size, 1, none⟩)
        have o3 : OwnInts _ _ _ _ := ownsRow_far ((OwnInts.ext ho3 (Ext.drew w3)).ext hx4) (own_far_blk ((OwnInts.ext ho3 (Ext.drew w3)).ext hx4) bO4 (by decide)) (.slice Al4 (trim (ru.w :: c.l)).length cl4) (p := ⟨V.heap.size, 1, none⟩)
        have o4' : OwnInts _ _ _ (trim (ru.w :: c.l)) := ownsRow_far o4 (own_far_blk o4 bO5 (by decide)) (.slice Au dr.length cu) (p := ⟨V.heap.size, 2, none⟩)
        have o3' : OwnInts _ _ _ dr := ownsRow_far o3 (own_far_blk o3 bO5 (by decide)) (.slice Au dr.length cu) (p := ⟨V.heap.size, 2, none⟩)
        have EX := EX5.setCell (p := ⟨V.heap.size, 2, none⟩) (Nat.le_refl _) (.slice Au dr.length cu)
        have bO5' : Blk (w4.setCell ⟨V.heap.size, 1, none⟩ (.slice Al4 (trim (ru.w :: c.l)).length cl4)) V.heap.size 54 #[.int .i64 ru.n, .slice Al4 (trim (ru.w :: c.l)).length cl4, .slice none 0 0] := bO5
        have v0 := bO5'.cell 2
        have vf := bO5'.frozen 2
        simp only [List.getElem?_toArray, List.getElem?_cons_zero, List.getElem?_cons_succ] at v0
        have bO : Blk ((w4.setCell ⟨V.heap.size, 1, none⟩ (.slice Al4 (trim (ru.w :: c.l)).length cl4)).setCell ⟨V.heap.size, 2, none⟩ (.slice Au dr.length cu)) V.heap.size 54 #[.int .i64 ru.n, .slice Al4 (trim (ru.w :: c.l)).length cl4, .slice Au dr.length cu] := bO5'.set_ 2 (.slice Au dr.length cu)
        go_wp2_with fail
        generalize (w4.setCell ⟨V.heap.size, 1, none⟩ (.slice Al4 (trim (ru.w :: c.l)).length cl4)).setCell ⟨V.heap.size, 2, none⟩ (.slice Au dr.length cu) = X at *
        have hXX := hXV.trans EX
        have bRX := bRV.ext EX
        obtain ⟨D1, D2⟩ := conf_done (n := ru.n) hXX (Nat.le_refl _) bRX o4' o3'
        have HD1 : Hid (ConfV (((X.setCell ⟨w.heap.size, 0, none⟩ (.int .i64 ru.n)).setCell ⟨w.heap.size, 1, none⟩ (.slice Al4 (trim (ru.w :: c.l)).length cl4)).setCell ⟨w.heap.size, 2, none⟩ (.slice Au (dr).length cu)) (.agg #[.int .i64 ru.n, .slice Al4 (trim (ru.w :: c.l)).length cl4, .slice Au (dr).length cu]) (stepC ru c)) := by
          unfold Hid stepC
          rw [if_pos hmv, ← HDR.out]
          exact D1
        have HD2 := Lib.hid D2
        have HSL : Hid ((stepC ru c).l.length = (trim (ru.w :: c.l)).length) := by unfold Hid stepC; rw [if_pos hmv, ← HDR.out]
        have HSR : Hid ((stepC ru c).r.length = (dr).length) := by unfold Hid stepC; rw [if_pos hmv, ← HDR.out]
        have ln1 : (trim (ru.w :: c.l)).length ≤ 9223372036854775807 := by have := trim_len (ru.w :: c.l); simp at this; omega
        have ln2 : (dr).length ≤ 9223372036854775807 := by omega
        clear D1 D2 o4' o3'
        generalize (trim (ru.w :: c.l)).length = nl at *
        generalize (dr).length = nr at *
        have eO0 := bO.cell 0
        have eO1 := bO.cell 1
        have eO2 := bO.cell 2
        have r0 := bRX.cell 0
        have r1 := bRX.cell 1
        have r2 := bRX.cell 2
        have rf0 := bRX.frozen 0
        have rf1 := bRX.frozen 1
        have rf2 := bRX.frozen 2
        simp only [List.getElem?_toArray, List.getElem?_cons_zero, List.getElem?_cons_succ] at eO0 eO1 eO2 r0 r1 r2
        have neg : w.heap.size ≠ V.heap.size := by omega
        have bOf := ((bO.far (p := ⟨w.heap.size, 0, none⟩) neg.symm (.int .i64 ru.n)).far (p := ⟨w.heap.size, 1, none⟩) neg.symm (.slice Al4 nl cl4)).far (p := ⟨w.heap.size, 2, none⟩) neg.symm (.slice Au nr cu)
        have y0 := bOf.cell 0
        have y1 := bOf.cell 1
        have y2 := bOf.cell 2
        simp only [List.getElem?_toArray, List.getElem?_cons_zero, List.getElem?_cons_succ] at y0 y1 y2
        have d := (((bRX.set_ 0 (.int .i64 ru.n)).set_ 1 (.slice Al4 nl cl4)).set_ 2 (.slice Au nr cu)).cell
        by_cases hl1 : nl ≤ 200
        · have L1 : decide ((nl : Int) ≤ 200) = true := by simp; omega
          have L1' : decide (nl ≤ 200) = true := by simp; omega
          have HL1 := Lib.hid hl1
          clear hl1
          by_cases hl2 : nr ≤ 200
          · have L2 : decide ((nr : Int) ≤ 200) = true := by simp; omega
            have L2' : decide (nr ≤ 200) = true := by simp; omega
            have HL2 := Lib.hid hl2
            clear hl2
            go_region_held3 (fun w' => w'.cell? ⟨V.heap.size, 0, none⟩ = some (.int .i64 ru.n) ∧ w'.cell? ⟨V.heap.size, 1, none⟩ = some (.slice Al4 nl cl4) ∧ w'.cell? ⟨V.heap.size, 2, none⟩ = some (.slice Au nr cu)) (first | go_keep | exact ⟨y0, y1, y2⟩) (fail)
            all_goals
              go_wp2
              refine bodyPost_ret (v := .tuple #[.agg #[.int .i64 ru.n, .slice Al4 nl cl4, .slice Au nr cu], .bool true]) (by simp [results, Tryz.results52, go_sem, d]) rfl ⟨_, ?_, by first | exact HD1.out | exact HD1.out.ext (Ext.drew _), by first | exact HD2.out | exact HD2.out.trans (Ext.drew _)⟩
              simp [HSL.out, HSR.out, HL1.out, HL2.out]
          · have L2 : decide ((nr : Int) ≤ 200) = false := by simp; omega
            have L2' : decide (nr ≤ 200) = false := by simp; omega
            have HL2 := Lib.hid hl2
            clear hl2
            go_region_held3 (fun w' => w'.cell? ⟨V.heap.size, 0, none⟩ = some (.int .i64 ru.n) ∧ w'.cell? ⟨V.heap.size, 1, none⟩ = some (.slice Al4 nl cl4) ∧ w'.cell? ⟨V.heap.size, 2, none⟩ = some (.slice Au nr cu)) (first | go_keep | exact ⟨y0, y1, y2⟩) (fail)
            all_goals
              go_wp2
              refine bodyPost_ret (v := .tuple #[.agg #[.int .i64 ru.n, .slice Al4 nl cl4, .slice Au nr cu], .bool false]) (by simp [results, Tryz.results52, go_sem, d]) rfl ⟨_, ?_, by first | exact HD1.out | exact HD1.out.ext (Ext.drew _), by first | exact HD2.out | exact HD2.out.trans (Ext.drew _)⟩
              simp [HSL.out, HSR.out, HL1.out, HL2.out]
        · have L1 : decide ((nl : Int) ≤ 200) = false := by simp; omega
          have L1' : decide (nl ≤ 200) = false := by simp; omega
          have HL1 := Lib.hid hl1
          clear hl1
          refine wp_region_ordTS (fun w' => w'.cell? ⟨V.heap.size, 0, none⟩ = some (.int .i64 ru.n) ∧ w'.cell? ⟨V.heap.size, 1, none⟩ = some (.slice Al4 nl cl4) ∧ w'.cell? ⟨V.heap.size, 2, none⟩ = some (.slice Au nr cu)) 12 (readsT [0, 1, 2, 3, 4, 5, 6, 7, 8, 9, 10] (.stir 11 .done)) (by kernel_rfl) (by kernel_rfl) (fun _ _ _ _ _ h => h) ⟨eO0, eO1, eO2⟩ ?_
          simp only [readsT]
          iterate 6
            refine wpOrdT_read (v := ?_) (by rfl) (Or.inl ⟨by rfl, fun x hx => ?_⟩) ?_
            rotate_left
            · obtain ⟨a1, a2, a3⟩ := hx
              go_simp
              try simp only [L1]
              try with_reducible rfl
            try simp only [Act.put, List.setIfInBounds_toArray, List.set_cons_zero, List.set_cons_succ]
          iterate 4
            refine wpOrdT_read (v := undef) (by rfl) (Or.inr ⟨by rfl, by rfl⟩) ?_
            try simp only [Act.put, List.setIfInBounds_toArray, List.set_cons_zero, List.set_cons_succ]
          refine wpOrdT_read (v := ?_) (by rfl) (Or.inl ⟨by rfl, fun x hx => ?_⟩) ?_
          rotate_left
          · go_simp
            try with_reducible rfl
          try simp only [Act.put, List.setIfInBounds_toArray, List.set_cons_zero, List.set_cons_succ]
          refine wpOrdT_keep (by rfl) (fun K hK => ?_)
          go_simp
          refine hK _ _ ⟨y0, y1, y2⟩ ?_
          clear hK K
          refine wpOrdT_done ?_
          try simp only [List.drop_succ_cons, List.drop_zero]
          go_wp2
          refine bodyPost_ret (v := .tuple #[.agg #[.int .i64 ru.n, .slice Al4 nl cl4, .slice Au nr cu], .bool false]) (by simp [results, Tryz.results52, go_sem, d]) rfl ⟨_, ?_, by first | exact HD1.out | exact HD1.out.ext (Ext.drew _), by first | exact HD2.out | exact HD2.out.trans (Ext.drew _)⟩
          simp [HSL.out, HSR.out, HL1.out]
    · have e1 := EX3.cell g1
      have e0 := EX3.cell g0
      have eq1 := EX3.cell q1
      have hdm : decide (0 < ru.m) = false := by simp; omega
      have ho3l := dr.length
      by_cases hll : c.l.length = 0
      · have hz : c.l = [] := by simpa using hll
        have HN : Hid (hdR c.l = 0) := by unfold Hid; rw [hz]; rfl
        have hzd : decide ((0 : Int) < (c.l.length : Int)) = false := by simp; omega
        have hzd' : decide (0 < c.l.length) = false := by simp; omega
        clear hz hll
        go_wp2_with fail
        refine (l05Push_c ru.w _ dr _ ho3.ints (by omega)).mono ?_
        rintro e w4 ⟨u4, rfl, ho4, hx4⟩
        have hl4 := trim_len (ru.w :: dr)
        simp only [List.length_cons] at hl4
        obtain ⟨A4, c4, rfl, _, _⟩ := ho4.ints.form
        go_wp2_with fail
        refine (l05Push_c 0 _ _ _ ho4.ints (by omega)).mono ?_
        rintro e w5 ⟨u5, rfl, ho5, hx5⟩
        have hl5 := trim_len (0 :: trim (ru.w :: dr))
        simp only [List.length_cons] at hl5
        obtain ⟨A5, c5, rfl, _, _⟩ := ho5.ints.form
        have EX5 := (EX3.trans hx4).trans hx5
        have bO5 := (bO3.ext hx4).ext hx5
        generalize hrr : trim (0 :: trim (ru.w :: dr)) = rr at *
        have HRR := Lib.hid hrr
        clear hrr
        have v0 := bO5.cell 2
        have vf := bO5.frozen 2
        simp only [List.getElem?_toArray, List.getElem?_cons_zero, List.getElem?_cons_succ] at v0
        have o5 : OwnInts _ _ _ rr := ownsRow_far ho5 (own_far_blk ho5 bO5 (by decide)) (.slice A5 rr.length c5) (p := ⟨V.heap.size, 2, none⟩)
        have EX6 := EX5.setCell (p := ⟨V.heap.size, 2, none⟩) (Nat.le_refl _) (.slice A5 rr.length c5)
        have bO6 : Blk (w5.setCell ⟨V.heap.size, 2, none⟩ (.slice A5 rr.length c5)) V.heap.size 54 #[.int .i64 ru.n, .slice none 0 0, .slice A5 rr.length c5] := bO5.set_ 2 (.slice A5 rr.length c5)
        have eq6 := EX6.cell q1
        go_wp2_with fail
        generalize w5.setCell ⟨V.heap.size, 2, none⟩ (.slice A5 rr.length c5) = w6 at *
        refine (l05Rest_c _ _ _ (hL.ext EX6) (by omega)).mono ?_
        rintro e w7 ⟨u7, rfl, ho7, hx7⟩
        obtain ⟨dl, hdl'⟩ : ∃ d, d = List.drop 1 c.l := ⟨_, rfl⟩
        have hdll : dl.length ≤ 199 := by rw [hdl']; simp; omega
        rw [← hdl'] at ho7
        have HDL := Lib.hid hdl'
        clear hdl'
        obtain ⟨A7, c7, rfl, _, _⟩ := ho7.ints.form
        have EX7 := EX6.trans hx7
        have bO7 := bO6.ext hx7
        have o5' := OwnInts.ext o5 hx7
        have v1 := bO7.cell 1
        have vf1 := bO7.frozen 1
        simp only [List.getElem?_toArray, List.getElem?_cons_zero, List.getElem?_cons_succ] at v1
        have oL : OwnInts _ _ _ dl := ownsRow_far ho7 (own_far_blk ho7 bO7 (by decide)) (.slice A7 dl.length c7) (p := ⟨V.heap.size, 1, none⟩)
        have oR : OwnInts _ _ _ rr := ownsRow_far o5' (own_far_blk o5' bO7 (by decide)) (.slice A7 dl.length c7) (p := ⟨V.heap.size, 1, none⟩)
        have EX := EX7.setCell (p := ⟨V.heap.size, 1, none⟩) (Nat.le_refl _) (.slice A7 dl.length c7)
        have bO : Blk (w7.setCell ⟨V.heap.size, 1, none⟩ (.slice A7 dl.length c7)) V.heap.size 54 #[.int .i64 ru.n, .slice A7 dl.length c7, .slice A5 rr.length c5] := bO7.set_ 1 (.slice A7 dl.length c7)
        go_wp2_with fail
        generalize w7.setCell ⟨V.heap.size, 1, none⟩ (.slice A7 dl.length c7) = X at *
        have hXX := hXV.trans EX
        have bRX := bRV.ext EX
        obtain ⟨D1, D2⟩ := conf_done (n := ru.n) hXX (Nat.le_refl _) bRX oL oR
        have HD1 : Hid (ConfV (((X.setCell ⟨w.heap.size, 0, none⟩ (.int .i64 ru.n)).setCell ⟨w.heap.size, 1, none⟩ (.slice A7 (dl).length c7)).setCell ⟨w.heap.size, 2, none⟩ (.slice A5 (rr).length c5)) (.agg #[.int .i64 ru.n, .slice A7 (dl).length c7, .slice A5 (rr).length c5]) (stepC ru c)) := by
          unfold Hid stepC
          rw [if_neg (by omega), ← HDL.out, ← HDR.out, HN.out, HRR.out]
          exact D1
        have HD2 := Lib.hid D2
        have HSL : Hid ((stepC ru c).l.length = (dl).length) := by unfold Hid stepC; rw [if_neg (by omega), ← HDL.out, ← HDR.out, HN.out, HRR.out]
        have HSR : Hid ((stepC ru c).r.length = (rr).length) := by unfold Hid stepC; rw [if_neg (by omega), ← HDL.out, ← HDR.out, HN.out, HRR.out]
        have ln1 : (dl).length ≤ 9223372036854775807 := by omega
        have ln2 : (rr).length ≤ 9223372036854775807 := by omega
        have LN : (dl).length ≤ 200 := by omega
        clear D1 D2 oL oR
        generalize (dl).length = nl at *
        generalize (rr).length = nr at *
        have eO0 := bO.cell 0
        have eO1 := bO.cell 1
        have eO2 := bO.cell 2
        have r0 := bRX.cell 0
        have r1 := bRX.cell 1
        have r2 := bRX.cell 2
        have rf0 := bRX.frozen 0
        have rf1 := bRX.frozen 1
        have rf2 := bRX.frozen 2
        simp only [List.getElem?_toArray, List.getElem?_cons_zero, List.getElem?_cons_succ] at eO0 eO1 eO2 r0 r1 r2
        have neg : w.heap.size ≠ V.heap.size := by omega
        have bOf := ((bO.far (p := ⟨w.heap.size, 0, none⟩) neg.symm (.int .i64 ru.n)).far (p := ⟨w.heap.size, 1, none⟩) neg.symm (.slice A7 nl c7)).far (p := ⟨w.heap.size, 2, none⟩) neg.symm (.slice A5 nr c5)
        have y0 := bOf.cell 0
        have y1 := bOf.cell 1
        have y2 := bOf.cell 2
        simp only [List.getElem?_toArray, List.getElem?_cons_zero, List.getElem?_cons_succ] at y0 y1 y2
        have d := (((bRX.set_ 0 (.int .i64 ru.n)).set_ 1 (.slice A7 nl c7)).set_ 2 (.slice A5 nr c5)).cell
        by_cases hl1 : nl ≤ 200
        · have L1 : decide ((nl : Int) ≤ 200) = true := by simp; omega
          have L1' : decide (nl ≤ 200) = true := by simp; omega
          have HL1 := Lib.hid hl1
          clear hl1
          by_cases hl2 : nr ≤ 200
          · have L2 : decide ((nr : Int) ≤ 200) = true := by simp; omega
            have L2' : decide (nr ≤ 200) = true := by simp; omega
            have HL2 := Lib.hid hl2
            clear hl2
            go_region_held3 (fun w' => w'.cell? ⟨V.heap.size, 0, none⟩ = some (.int .i64 ru.n) ∧ w'.cell? ⟨V.heap.size, 1, none⟩ = some (.slice A7 nl c7) ∧ w'.cell? ⟨V.heap.size, 2, none⟩ = some (.slice A5 nr c5)) (first | go_keep | exact ⟨y0, y1, y2⟩) (fail)
            all_goals
              go_wp2
              refine bodyPost_ret (v := .tuple #[.agg #[.int .i64 ru.n, .slice A7 nl c7, .slice A5 nr c5], .bool true]) (by simp [results, Tryz.results52, go_sem, d]) rfl ⟨_, ?_, by first | exact HD1.out | exact HD1.out.ext (Ext.drew _), by first | exact HD2.out | exact HD2.out.trans (Ext.drew _)⟩
              simp [HSL.out, HSR.out, HL1.out, HL2.out]
          · have L2 : decide ((nr : Int) ≤ 200) = false := by simp; omega
            have L2' : decide (nr ≤ 200) = false := by simp; omega
            have HL2 := Lib.hid hl2
            clear hl2
            go_region_held3 (fun w' => w'.cell? ⟨V.heap.size, 0, none⟩ = some (.int .i64 ru.n) ∧ w'.cell? ⟨V.heap.size, 1, none⟩ = some (.slice A7 nl c7) ∧ w'.cell? ⟨V.heap.size, 2, none⟩ = some (.slice A5 nr c5)) (first | go_keep | exact ⟨y0, y1, y2⟩) (fail)
            all_goals
              go_wp2
              refine bodyPost_ret (v := .tuple #[.agg #[.int .i64 ru.n, .slice A7 nl c7, .slice A5 nr c5], .bool false]) (by simp [results, Tryz.results52, go_sem, d]) rfl ⟨_, ?_, by first | exact HD1.out | exact HD1.out.ext (Ext.drew _), by first | exact HD2.out | exact HD2.out.trans (Ext.drew _)⟩
              simp [HSL.out, HSR.out, HL1.out, HL2.out]
        · exact absurd LN hl1
      · obtain ⟨bl, ol, rfl, hcl⟩ := hL.at (k := 0) (by omega)
        have dl0 := EX3.cell (hcl 0 (by omega))
        simp only [Nat.add_zero] at dl0
        have HN : Hid (hdR c.l = c.l[0]) := by unfold Hid hdR; rw [List.getD_eq_getElem?_getD, List.getElem?_eq_getElem (by omega)]; rfl
        have hl0 : (0 : Int) < (c.l.length : Int) := by omega
        generalize c.l[0] = near at *
        clear hcl
        go_wp2_with fail
        refine (l05Push_c ru.w _ dr _ ho3.ints (by omega)).mono ?_
        rintro e w4 ⟨u4, rfl, ho4, hx4⟩
        have hl4 := trim_len (ru.w :: dr)
        simp only [List.length_cons] at hl4
        obtain ⟨A4, c4, rfl, _, _⟩ := ho4.ints.form
        go_wp2_with fail
        refine (l05Push_c near _ _ _ ho4.ints (by omega)).mono ?_
        rintro e w5 ⟨u5, rfl, ho5, hx5⟩
        have hl5 := trim_len (near :: trim (ru.w :: dr))
        simp only [List.length_cons] at hl5
        obtain ⟨A5, c5, rfl, _, _⟩ := ho5.ints.form
        have EX5 := (EX3.trans hx4).trans hx5
        have bO5 := (bO3.ext hx4).ext hx5
        generalize hrr : trim (near :: trim (ru.w :: dr)) = rr at *
        have HRR := Lib.hid hrr
        clear hrr
        have v0 := bO5.cell 2
        have vf := bO5.frozen 2
        simp only [List.getElem?_toArray, List.getElem?_cons_zero, List.getElem?_cons_succ] at v0
        have o5 : OwnInts _ _ _ rr := ownsRow_far ho5 (own_far_blk ho5 bO5 (by decide)) (.slice A5 rr.length c5) (p := ⟨V.heap.size, 2, none⟩)
        have EX6 := EX5.setCell (p := ⟨V.heap.size, 2, none⟩) (Nat.le_refl _) (.slice A5 rr.length c5)
        have bO6 : Blk (w5.setCell ⟨V.heap.size, 2, none⟩ (.slice A5 rr.length c5)) V.heap.size 54 #[.int .i64 ru.n, .slice none 0 0, .slice A5 rr.length c5] := bO5.set_ 2 (.slice A5 rr.length c5)
        have eq6 := EX6.cell q1
        go_wp2_with fail
        generalize w5.setCell ⟨V.heap.size, 2, none⟩ (.slice A5 rr.length c5) = w6 at *
        refine (l05Rest_c _ _ _ (hL.ext EX6) (by omega)).mono ?_
        rintro e w7 ⟨u7, rfl, ho7, hx7⟩
        obtain ⟨dl, hdl'⟩ : ∃ d, d = List.drop 1 c.l := ⟨_, rfl⟩
        have hdll : dl.length ≤ 199 := by rw [hdl']; simp; omega
        rw [← hdl'] at ho7
        have HDL := Lib.hid hdl'
        clear hdl'
        obtain ⟨A7, c7, rfl, _, _⟩ := ho7.ints.form
        have EX7 := EX6.trans hx7
        have bO7 := bO6.ext hx7
        have o5' := OwnInts.ext o5 hx7
        have v1 := bO7.cell 1
        have vf1 := bO7.frozen 1
        simp only [List.getElem?_toArray, List.getElem?_cons_zero, List.getElem?_cons_succ] at v1
        have oL : OwnInts _ _ _ dl := ownsRow_far ho7 (own_far_blk ho7 bO7 (by decide)) (.slice A7 dl.length c7) (p := ⟨V.heap.size, 1, none⟩)
        have oR : OwnInts _ _ _ rr := ownsRow_far o5' (own_far_blk o5' bO7 (by decide)) (.slice A7 dl.length c7) (p := ⟨V.heap.size, 1, none⟩)
        have EX := EX7.setCell (p := ⟨V.heap.size, 1, none⟩) (Nat.le_refl _) (.slice A7 dl.length c7)
        have bO : Blk (w7.setCell ⟨V.heap.size, 1, none⟩ (.slice A7 dl.length c7)) V.heap.size 54 #[.int .i64 ru.n, .slice A7 dl.length c7, .slice A5 rr.length c5] := bO7.set_ 1 (.slice A7 dl.length c7)
        go_wp2_with fail
        generalize w7.setCell ⟨V.heap.size, 1, none⟩ (.slice A7 dl.length c7) = X at *
        have hXX := hXV.trans EX
        have bRX := bRV.ext EX
        obtain ⟨D1, D2⟩ := conf_done (n := ru.n) hXX (Nat.le_refl _) bRX oL oR
        have HD1 : Hid (ConfV (((X.setCell ⟨w.heap.size, 0, none⟩ (.int .i64 ru.n)).setCell ⟨w.heap.size, 1, none⟩ (.slice A7 (dl).length c7)).setCell ⟨w.heap.size, 2, none⟩ (.slice A5 (rr).length c5)) (.agg #[.int .i64 ru.n, .slice A7 (dl).length c7, .slice A5 (rr).length c5]) (stepC ru c)) := by
          unfold Hid stepC
          rw [if_neg (by omega), ← HDL.out, ← HDR.out, HN.out, HRR.out]
          exact D1
        have HD2 := Lib.hid D2
        have HSL : Hid ((stepC ru c).l.length = (dl).length) := by unfold Hid stepC; rw [if_neg (by omega), ← HDL.out, ← HDR.out, HN.out, HRR.out]
        have HSR : Hid ((stepC ru c).r.length = (rr).length) := by unfold Hid stepC; rw [if_neg (by omega), ← HDL.out, ← HDR.out, HN.out, HRR.out]
        have ln1 : (dl).length ≤ 9223372036854775807 := by omega
        have ln2 : (rr).length ≤ 9223372036854775807 := by omega
        have LN : (dl).length ≤ 200 := by omega
        clear D1 D2 oL oR
        generalize (dl).length = nl at *
        generalize (rr).length = nr at *
        have eO0 := bO.cell 0
        have eO1 := bO.cell 1
        have eO2 := bO.cell 2
        have r0 := bRX.cell 0
        have r1 := bRX.cell 1
        have r2 := bRX.cell 2
        have rf0 := bRX.frozen 0
        have rf1 := bRX.frozen 1
        have rf2 := bRX.frozen 2
        simp only [List.getElem?_toArray, List.getElem?_cons_zero, List.getElem?_cons_succ] at eO0 eO1 eO2 r0 r1 r2
        have neg : w.heap.size ≠ V.heap.size := by omega
        have bOf := ((bO.far (p := ⟨w.heap.size, 0, none⟩) neg.symm (.int .i64 ru.n)).far (p := ⟨w.heap.size, 1, none⟩) neg.symm (.slice A7 nl c7)).far (p := ⟨w.heap.size, 2, none⟩) neg.symm (.slice A5 nr c5)
        have y0 := bOf.cell 0
        have y1 := bOf.cell 1
        have y2 := bOf.cell 2
        simp only [List.getElem?_toArray, List.getElem?_cons_zero, List.getElem?_cons_succ] at y0 y1 y2
        have d := (((bRX.set_ 0 (.int .i64 ru.n)).set_ 1 (.slice A7 nl c7)).set_ 2 (.slice A5 nr c5)).cell
        by_cases hl1 : nl ≤ 200
        · have L1 : decide ((nl : Int) ≤ 200) = true := by simp; omega
          have L1' : decide (nl ≤ 200) = true := by simp; omega
          have HL1 := Lib.hid hl1
          clear hl1
          by_cases hl2 : nr ≤ 200
          · have L2 : decide ((nr : Int) ≤ 200) = true := by simp; omega
            have L2' : decide (nr ≤ 200) = true := by simp; omega
            have HL2 := Lib.hid hl2
            clear hl2
            go_region_held3 (fun w' => w'.cell? ⟨V.heap.size, 0, none⟩ = some (.int .i64 ru.n) ∧ w'.cell? ⟨V.heap.size, 1, none⟩ = some (.slice A7 nl c7) ∧ w'.cell? ⟨V.heap.size, 2, none⟩ = some (.slice A5 nr c5)) (first | go_keep | exact ⟨y0, y1, y2⟩) (fail)
            all_goals
              go_wp2
              refine bodyPost_ret (v := .tuple #[.agg #[.int .i64 ru.n, .slice A7 nl c7, .slice A5 nr c5], .bool true]) (by simp [results, Tryz.results52, go_sem, d]) rfl ⟨_, ?_, by first | exact HD1.out | exact HD1.out.ext (Ext.drew _), by first | exact HD2.out | exact HD2.out.trans (Ext.drew _)⟩
              simp [HSL.out, HSR.out, HL1.out, HL2.out]
          · have L2 : decide ((nr : Int) ≤ 200) = false := by simp; omega
            have L2' : decide (nr ≤ 200) = false := by simp; omega
            have HL2 := Lib.hid hl2
            clear hl2
            go_region_held3 (fun w' => w'.cell? ⟨V.heap.size, 0, none⟩ = some (.int .i64 ru.n) ∧ w'.cell? ⟨V.heap.size, 1, none⟩ = some (.slice A7 nl c7) ∧ w'.cell? ⟨V.heap.size, 2, none⟩ = some (.slice A5 nr c5)) (first | go_keep | exact ⟨y0, y1, y2⟩) (fail)
            all_goals
              go_wp2
              refine bodyPost_ret (v := .tuple #[.agg #[.int .i64 ru.n, .slice A7 nl c7, .slice A5 nr c5], .bool false]) (by simp [results, Tryz.results52, go_sem, d]) rfl ⟨_, ?_, by first | exact HD1.out | exact HD1.out.ext (Ext.drew _), by first | exact HD2.out | exact HD2.out.trans (Ext.drew _)⟩
              simp [HSL.out, HSR.out, HL1.out, HL2.out]
        · exact absurd LN hl1
end Go.Proofs.YtfghojbbofobeaaGreat
end
