/- Contract of the program's run of a machine by its runner. The machine is valid and the configuration is one of its.
Plain words on runs: positions of the head, the tape around it, and runs that come again moved by some cells. -/
import Derived.Test.YtacpchapgklcgaaGreatDoorQ30
import Derived.Deep.RegionHeld3
import Derived.Test.YtacpchapgklcgaaGreatDoorQ26
section
set_option linter.unusedSimpArgs false
set_option linter.unusedVariables false
namespace Go.Proofs.YtacpchapgklcgaaGreatDoor
open Go Go.RowKit Go.Proofs Go.Shelf
attribute [local go_sem] Oper.semAt_some
set_option maxHeartbeats 400000
section
variable {w0 : World} {b k : Nat} {m : MachD} {c : ConfD} {mv : Value} {N B : Nat}
theorem FourR.turn {W W' : World} {a e n : Int} {s : Bool} (h : FourR W k a s e n) {row : Option Nat} (hg : W.grownBy W' row) (hr : ∀ r, row = some r → ∃ o : Obj, W.heap[r]? = some o ∧ o.isCells = false) : FourR W' k a s e n := by
  refine ⟨h.b0.kept hg (fun e => ?_), h.b1.kept hg (fun e => ?_), h.b2.kept hg (fun e => ?_), h.b3.kept hg (fun e => ?_)⟩
  · exact not_cells (o := .cells #[] 0) h.b0 (hr _ e.symm)
  · exact not_cells (o := .cells #[] 0) h.b1 (hr _ e.symm)
  · exact not_cells (o := .cells #[] 0) h.b2 (hr _ e.symm)
  · exact not_cells (o := .cells #[] 0) h.b3 (hr _ e.symm)
theorem iRun_own (h0 : w0.heap.size ≤ B) : OwnFrom B (IRun w0 b m mv k) := by
  rintro s W W' row ⟨⟨d, lv, rv, hR, hA⟩, hF, hT⟩ hg hr
  exact ⟨⟨d, lv, rv, hR.turn hg (fun r e => ⟨Nat.le_trans h0 (hr r e).1, (hr r e).2⟩), hA⟩, hF.turn hg (fun r e => (hr r e).2), hT⟩
theorem ixRun_own (h0 : w0.heap.size ≤ B) (cd : Code) : OwnFrom B (IxRun w0 k cd) := by
  rintro s W W' row ⟨h1, h2, ⟨n, hF⟩, hE⟩ hg hr
  exact ⟨h1, h2, ⟨n, hF.turn hg (fun r e => (hr r e).2)⟩, hE.grown hg (fun r e => Nat.le_trans h0 (hr r e).1)⟩
theorem iRun_w (s : List (Int × Bool)) (X Y : World) (h : IRun w0 b m mv k s X) (hw : WrR w0 b m mv X Y) : IRun w0 b m mv k s Y := by
  obtain ⟨⟨d, lv, rv, hR, hA⟩, hF, hT⟩ := h
  obtain ⟨d1, l1, r1, d2, l2, r2, h1, h2, hm⟩ := hw
  obtain ⟨rfl, rfl⟩ := hR.vals h1
  have hlt := hF.lt
  exact ⟨⟨d2, l2, r2, h2, fun i hi => ((hA i hi).moved hm (by omega)).1⟩, hF.same (fun i hi => ((hA i hi).moved hm (by omega)).2), hT⟩
theorem stR_own (h0 : w0.heap.size ≤ B) (pre : List (Int × Bool)) (x : Int × Bool) : OwnFrom B (fun (_ : Unit) W => StR w0 b m c mv N pre x W) := by
  rintro s W W' row ⟨i, lv, rv, hR, h2⟩ hg hr
  exact ⟨i, lv, rv, hR.turn hg (fun r e => ⟨Nat.le_trans h0 (hr r e).1, (hr r e).2⟩), h2⟩
theorem sR_own (h0 : w0.heap.size ≤ B) : OwnFrom B (SR w0 b m c mv N) := by
  rintro s W W' row ⟨i, lv, rv, p, hR, h2⟩ hg hr
  exact ⟨i, lv, rv, p, hR.turn hg (fun r e => ⟨Nat.le_trans h0 (hr r e).1, (hr r e).2⟩), h2⟩
theorem spR_own (h0 : w0.heap.size ≤ B) : OwnFrom B (SpR w0 b m c mv N) := by
  rintro s W W' row ⟨i, lv, rv, p, hR, h2⟩ hg hr
  exact ⟨i, lv, rv, p, hR.turn hg (fun r e => ⟨Nat.le_trans h0 (hr r e).1, (hr r e).2⟩), h2⟩
end
theorem kp_set {w0 W : World} {b bq bp : Nat} {m : MachD} {d : ConfD} {mv lv rv : Value} (h : RunAt w0 W b m d mv lv rv) {p : Addr} (ha : Apt b p.block lv rv) (h0 : w0.heap.size ≤ p.block) (hq : bq ≠ p.block) (hp : bp ≠ p.block) (u : Value) :
    KpR w0 b bq bp m mv W (W.setCell p u) ∧ RunAt w0 (W.setCell p u) b m d mv lv rv := by
  refine ⟨⟨(grownBy_setCell W p u).size, fun d' l' r' h' => ?_, Below.heap_setCell W p u bq hq, Below.heap_setCell W p u bp hp⟩, h.apart ha.nb ha.nl ha.nr h0 u⟩
  obtain ⟨rfl, rfl⟩ := h.vals h'
  exact h'.apart ha.nb ha.nl ha.nr h0 u
theorem FourR.set0 {W : World} {k : Nat} {a e n : Int} {s : Bool} (h : FourR W k a s e n) (x : Int) : FourR (W.setCell ⟨k, 0, none⟩ (.int .i64 x)) k x s e n :=
  ⟨h.b0.set_ 0 _, h.b1.far (by simp) _, h.b2.far (by simp) _, h.b3.far (by simp) _⟩
theorem FourR.set1 {W : World} {k : Nat} {a e n : Int} {s : Bool} (h : FourR W k a s e n) (x : Bool) : FourR (W.setCell ⟨k + 1, 0, none⟩ (.bool x)) k a x e n :=
  ⟨h.b0.far (by simp) _, h.b1.set_ 0 _, h.b2.far (by simp) _, h.b3.far (by simp) _⟩
theorem FourR.set2 {W : World} {k : Nat} {a e n : Int} {s : Bool} (h : FourR W k a s e n) (x : Int) : FourR (W.setCell ⟨k + 1 + 1, 0, none⟩ (.int .i64 x)) k a s x n :=
  ⟨h.b0.far (by show k ≠ k + 1 + 1; omega) _, h.b1.far (by simp) _, h.b2.set_ 0 _, h.b3.far (by simp) _⟩
theorem FourR.set3 {W : World} {k : Nat} {a e n : Int} {s : Bool} (h : FourR W k a s e n) (x : Int) : FourR (W.setCell ⟨k + 1 + 1 + 1, 0, none⟩ (.int .i64 x)) k a s e x :=
  ⟨h.b0.far (by show k ≠ k + 1 + 1 + 1; omega) _, h.b1.far (by show k + 1 ≠ k + 1 + 1 + 1; omega) _, h.b2.far (by simp) _, h.b3.set_ 0 _⟩
set_option maxRecDepth 100000 in
set_option maxHeartbeats 4000000 in
theorem run_c (w0 w : World) (b : Nat) (m : MachD) (c : ConfD) (mv lv rv : Value) (N : Nat) (hN : N ≤ 100000) (hm : machOk m = true) (hg : IGood m c) (hf : fitI c = true) (h : RunAt w0 w b m c mv lv rv) :
    Calls Tryz.prog 56 #[.pointer (some ⟨b, 0, none⟩), .int .i64 N] w (RunOut w0 b m c mv N) := by
  refine (callsIn_wide (n := 8)).1 ?_
  refine callsIn_of_wp_marks Tryz.func56 rfl trivial ?_ rfl
  simp only [Tryz.ntmps56, List.size_toArray, List.length_cons, List.length_nil, Nat.reduceAdd, Nat.reduceSub, Array.replicate_succ, Array.replicate_zero, List.push_toArray, List.append_toArray, List.nil_append, List.cons_append]
  gi_wp2_with (refine ⟨trivial, ?_⟩; gi_at_call 90; refine (callsIn_wide.2 (steps_c _ (N : Int) _ ⟨_, rfl⟩)).mono ?_; rintro e w' ⟨rfl, rfl⟩)
  have hbl := h.blk.lt
  obtain ⟨W, hW⟩ : ∃ W, W = ((((((w.alloc (.cells #[.int .i64 0] 2)).alloc (.cells #[.bool false] 4)).alloc (.cells #[.int .i64 0] 2)).alloc (.cells #[.int .i64 0] 2)).alloc (.cells #[.pointer (some ⟨b, 0, none⟩)] 107)).alloc (.cells #[.int .i64 (N : Int)] 2)) := ⟨_, rfl⟩
  have hXW : Ext w W := by rw [hW]; exact (((((Ext.alloc _ _).trans (Ext.alloc _ _)).trans (Ext.alloc _ _)).trans (Ext.alloc _ _)).trans (Ext.alloc _ _)).trans (Ext.alloc _ _)
  have hF : FourR W w.heap.size 0 false 0 0 := by
    rw [hW]
    exact ⟨((((((Blk.new _ _ _ _ rfl).alloc _).alloc _).alloc _).alloc _).alloc _), (((((Blk.new _ _ _ _ (by simp)).alloc _).alloc _).alloc _).alloc _), ((((Blk.new _ _ _ _ (by simp)).alloc _).alloc _).alloc _), (((Blk.new _ _ _ _ (by simp)).alloc _).alloc _)⟩
  have hR := h.ext hXW
  have hap : ∀ i, w.heap.size ≤ i → Apt b i lv rv := fun i hi => ⟨by omega, fun e => by have := (h.l.lt i e).2; omega, fun e => by have := (h.r.lt i e).2; omega⟩
  have hB : BoxR W b (w.heap.size + 1 + 1 + 1 + 1 + 1) (w.heap.size + 1 + 1 + 1 + 1) N lv rv := by
    have a5 := hap (w.heap.size + 1 + 1 + 1 + 1 + 1) (by omega)
    have a4 := hap (w.heap.size + 1 + 1 + 1 + 1) (by omega)
    refine ⟨?_, ?_, a5.nl, a5.nr, a4.nl, a4.nr, a5.nb, a4.nb⟩
    · rw [hW]; exact Blk.new _ _ _ _ (by simp)
    · rw [hW]; exact (Blk.new _ _ _ _ (by simp)).alloc _
  have hsz : W.heap.size = w.heap.size + 1 + 1 + 1 + 1 + 1 + 1 := by rw [hW]; simp
  rw [← hW]
  clear hW
  have hlow : w0.heap.size ≤ W.heap.size := hR.ext0.size
  obtain ⟨k, hk⟩ : ∃ k, k = w.heap.size := ⟨_, rfl⟩
  rw [← hk] at hF hap hB hsz ⊢
  have hw0k : w0.heap.size ≤ k := by rw [hk]; exact h.ext0.size
  clear hk h
  have h1 : 1 ≤ 8 := by omega
  refine wpIn_rangeFunc_W rfl h1 (gf := 116) (lb := #[.pointer (some ⟨k + 1 + 1 + 1 + 1 + 1, 0, none⟩), .pointer (some ⟨k + 1 + 1 + 1 + 1, 0, none⟩)]) rfl trivial (enters_of Tryz.func116 (by kernel_rfl) rfl)
    (steps1_w (8 - 1) (by omega) w0 W b (k + 1 + 1 + 1 + 1 + 1) (k + 1 + 1 + 1 + 1) m c mv lv rv N hN hm hg hf hR hB) (fun h k => KpR.trans h k) (fun W l o o' hl h1 h2 _ => KpR.turn W l o o' (by omega) (by omega) (by omega) h1 h2) (Below.refl _ _) (fun _ => rfl)
    (fun A B h => WrR.keeps h) (IRun w0 b m mv k) (IxRun w0 k) (iRun_own hlow) (ixRun_own hlow) iRun_w (stR_own hlow) (sR_own hlow) (spR_own hlow)
    ⟨⟨_, lv, rv, hR, fun i _ => hap (k + i) (by omega)⟩, hF, fun x hx => by cases hx⟩
    (fun x => { tmps := #[.pointer (some ⟨b, 0, none⟩), .int .i64 (N : Int), undef, undef, .pointer (some ⟨k, 0, none⟩), .pointer (some ⟨k + 1, 0, none⟩), .pointer (some ⟨k + 1 + 1, 0, none⟩), .pointer (some ⟨k + 1 + 1 + 1, 0, none⟩), .int .i64 x.1, .bool x.2, .pointer (some ⟨b, 0, none⟩), .int .i64 (N : Int), .func (.func 116) #[] #[.pointer (some ⟨k + 1 + 1 + 1 + 1 + 1, 0, none⟩), .pointer (some ⟨k + 1 + 1 + 1 + 1, 0, none⟩)], .int .i64 x.1, .bool x.2, undef, undef, undef, undef, undef, undef], defers := [] }) ?assign ?body ?done ?stop
  case assign =>
    intro l x W K hK
    gi_wp2
    exact hK
  case body =>
    rintro l pre ⟨n, room⟩ W' ⟨⟨d, l1, r1, hR1, hA1⟩, hF1, hT1⟩ hst _
    have c0 := hF1.b0.cell 0
    have c1 := hF1.b1.cell 0
    have c2 := hF1.b2.cell 0
    have c3 := hF1.b3.cell 0
    have f0 := hF1.b0.frozen 0
    have f1 := hF1.b1.frozen 0
    have f2 := hF1.b2.frozen 0
    have f3 := hF1.b3.frozen 0
    simp only [List.getElem?_toArray, List.getElem?_cons_zero] at c0 c1 c2 c3
    have a0 := hA1 0 (by omega)
    have a1 := hA1 1 (by omega)
    have a2 := hA1 2 (by omega)
    have a3 := hA1 3 (by omega)
    cases room with
    | true =>
      gi_wp2
      obtain ⟨hK3, hR3⟩ := kp_set (bq := k + 1 + 1 + 1 + 1 + 1) (bp := k + 1 + 1 + 1 + 1) (p := ⟨k + 1 + 1 + 1, 0, none⟩) hR1 a3 (by show w0.heap.size ≤ k + 1 + 1 + 1; omega) (by show k + 1 + 1 + 1 + 1 + 1 ≠ k + 1 + 1 + 1; omega) (by show k + 1 + 1 + 1 + 1 ≠ k + 1 + 1 + 1; omega) (.int .i64 n)
      refine ⟨(KeepsOthers.setCell _ _ _).from _, hK3, ⟨_, l1, r1, hR3, hA1⟩, by rw [lastN_snoc]; exact hF1.set3 n, fun x hx => ?_⟩
      rcases List.mem_append.1 hx with hx | hx
      · exact hT1 x hx
      · simp at hx; rw [hx]
    | false =>
      gi_wp2
      obtain ⟨hK1, hR2⟩ := kp_set (bq := k + 1 + 1 + 1 + 1 + 1) (bp := k + 1 + 1 + 1 + 1) (p := ⟨k, 0, none⟩) hR1 a0 hw0k (by show k + 1 + 1 + 1 + 1 + 1 ≠ k; omega) (by show k + 1 + 1 + 1 + 1 ≠ k; omega) (.int .i64 0)
      obtain ⟨hK2, hR3⟩ := kp_set (bq := k + 1 + 1 + 1 + 1 + 1) (bp := k + 1 + 1 + 1 + 1) (p := ⟨k + 1, 0, none⟩) hR2 a1 (by show w0.heap.size ≤ k + 1; omega) (by show k + 1 + 1 + 1 + 1 + 1 ≠ k + 1; omega) (by show k + 1 + 1 + 1 + 1 ≠ k + 1; omega) (.bool false)
      obtain ⟨hK3, hR4⟩ := kp_set (bq := k + 1 + 1 + 1 + 1 + 1) (bp := k + 1 + 1 + 1 + 1) (p := ⟨k + 1 + 1, 0, none⟩) hR3 a2 (by show w0.heap.size ≤ k + 1 + 1; omega) (by show k + 1 + 1 + 1 + 1 + 1 ≠ k + 1 + 1; omega) (by show k + 1 + 1 + 1 + 1 ≠ k + 1 + 1; omega) (.int .i64 5)
      exact ⟨(((KeepsOthers.setCell _ _ _).trans (KeepsOthers.setCell _ _ _)).trans (KeepsOthers.setCell _ _ _)).from _, (hK1.trans hK2).trans hK3, rfl, ⟨pre, (n, false), rfl, rfl⟩, ⟨_, ((hF1.set0 0).set1 false).set2 5⟩, hR4.ext0⟩
  case done =>
    rintro D xs W' hD ⟨i, l2, r2, p, hR2, hcase⟩ ⟨⟨d, l1, r1, hR1, hA1⟩, hF1, hT1⟩ hK
    rcases hcase with ⟨rfl, hEnd⟩ | ⟨rfl, _⟩
    · obtain ⟨rfl, rfl⟩ := hR2.vals hR1
      rw [lastN_snoc] at hF1
      have hgi : IGood m (cfgI m c i) := cfg_good hm hg i hEnd.runs.no
      have hfi := fit_both (hEnd.runs.fit i (Nat.le_refl _))
      have hH := fun w' h => halts_c w0 w' b m _ mv l2 r2 h (by omega) hm hgi
      have HEND := Lib.hid hEnd
      have hRd := hR2.ext (Ext.drew W')
      have c3 := hF1.b3.cell 0
      simp only [List.getElem?_toArray, List.getElem?_cons_zero] at c3
      have c3d := (Ext.drew W').cell c3
      gi_wp2
      refine wpIn_wide.2 ?_
      go_region_held3 (fun w' => w'.cell? ⟨k + 1 + 1 + 1, 0, none⟩ = some (.int .i64 (i : Int)))
        (first | go_keep | exact c34 | (rw [World.cell?_setCell_other _ _ _ _ (fun e => by injection e with e; omega)]; exact c34) | (rw [World.cell?_setCell_other _ _ _ _ (fun e => by injection e with e; omega)]; rw [World.cell?_setCell_other _ _ _ _ (fun e => by injection e with e; omega)]; exact c34) | (rw [World.cell?_setCell_other _ _ _ _ (fun e => by injection e with e; omega)]; rw [World.cell?_setCell_other _ _ _ _ (fun e => by injection e with e; omega)]; rw [World.cell?_setCell_other _ _ _ _ (fun e => by injection e with e; omega)]; exact c34))
        (first
          | (go_at_call 91; ((with_reducible refine (hH _ hRd).mono ?_)); rintro e w4 ⟨rfl, hx4⟩; have c34 := hx4.cell c3d; have hF4 := hF1.turn (⟨Below.os ((Ext.drew W').trans hx4), Below.tape ((Ext.drew W').trans hx4), Below.output ((Ext.drew W').trans hx4), Ext.size ((Ext.drew W').trans hx4), fun q hq _ => Below.block ((Ext.drew W').trans hx4) q hq⟩ : W'.grownBy w4 none) (fun r e => by cases e); have z0 := hF4.b0.cell 0; have z1 := hF4.b1.cell 0; have z2 := hF4.b2.cell 0; have y0 := hF4.b0.frozen 0; have y1 := hF4.b1.frozen 0; have y2 := hF4.b2.frozen 0))
      have hE4 := (Ext.drew W').trans hx4
      have hK4 : w4.heap[D]? = some (.deferred (some [])) := hE4.block hK
      have R4 := hRd.ext hx4
      have a0 := hA1 0 (by omega)
      have a1 := hA1 1 (by omega)
      have a2 := hA1 2 (by omega)
      obtain ⟨hb, hhb⟩ : ∃ x, decide (lookI m (cfgI m c i) = noR) = x := ⟨_, rfl⟩
      rw [hhb]
      have HHB := Lib.hid hhb
      clear hhb
      have R5 := R4.apart (p := ⟨k, 0, none⟩) a0.nb a0.nl a0.nr hw0k (.int .i64 (i : Int))
      have R6 := R5.apart (p := ⟨k + 1, 0, none⟩) a1.nb a1.nl a1.nr (by show w0.heap.size ≤ k + 1; omega) (.bool hb)
      have R7 := R6.apart (p := ⟨k + 1 + 1, 0, none⟩) a2.nb a2.nl a2.nr (by show w0.heap.size ≤ k + 1 + 1; omega) (.int .i64 0)
      have F7 := ((hF4.set0 (i : Int)).set1 hb).set2 0
      have K7 := (KeepsOthers.setCell _ ⟨k + 1 + 1, 0, none⟩ (.int .i64 0)).same D _ ((KeepsOthers.setCell _ ⟨k + 1, 0, none⟩ (.bool hb)).same D _ ((KeepsOthers.setCell w4 ⟨k, 0, none⟩ (.int .i64 (i : Int))).same D _ hK4 rfl) rfl) rfl
      clear z0 z1 z2 y0 y1 y2 c34 c3 c3d
      generalize ((w4.setCell ⟨k, 0, none⟩ (.int .i64 (i : Int))).setCell ⟨k + 1, 0, none⟩ (.bool hb)).setCell ⟨k + 1 + 1, 0, none⟩ (.int .i64 0) = W7 at *
      gi_wp2
      refine ⟨by simp, .inl ⟨_, _, rfl, run_takeDeferred K7, ?_⟩⟩
      have hD0 : w0.heap.size ≤ D := by omega
      have hgr := grownBy_putObj' W7 D (.deferred none)
      have hF2 := F7.turn hgr (fun r e => by cases e; exact ⟨_, K7, rfl⟩)
      have e0 := hF2.b0.cell 0
      have e1 := hF2.b1.cell 0
      have e2 := hF2.b2.cell 0
      simp only [List.getElem?_toArray, List.getElem?_cons_zero] at e0 e1 e2
      refine ⟨.tuple #[.int .i64 (i : Int), .bool hb, .int .i64 0], by simp [results, Tryz.f56, go_sem, e0, e1, e2], .inl ⟨i, l2, r2, HEND.out, by rw [HHB.out], ?_⟩⟩
      exact R7.turn hgr (fun r e => by cases e; exact ⟨hD0, _, K7, rfl⟩)
    · exact absurd (hT1 _ (List.mem_append.2 (.inr (List.mem_singleton.2 rfl)))) (by simp)
  case stop =>
    rintro D cd pre W' hD ⟨i, l2, r2, p, hR2, hcase⟩ ⟨rfl, ⟨p', x, hpx, hx2⟩, ⟨n, hF1⟩, hE⟩ hK
    rcases hcase with ⟨rfl, _⟩ | ⟨rfl, hFull⟩
    · have := List.append_inj_right' hpx rfl
      simp at this
      rw [← this] at hx2
      simp at hx2
    · have c0 := hF1.b0.cell 0
      have c1 := hF1.b1.cell 0
      have c2 := hF1.b2.cell 0
      simp only [List.getElem?_toArray, List.getElem?_cons_zero] at c0 c1 c2
      gi_wp2
      refine ⟨by simp, .inl ⟨_, _, rfl, run_takeDeferred hK, ?_⟩⟩
      have hD0 : w0.heap.size ≤ D := by omega
      have hgr := grownBy_putObj' W' D (.deferred none)
      have hF2 := hF1.turn hgr (fun r e => by cases e; exact ⟨_, hK, rfl⟩)
      have e0 := hF2.b0.cell 0
      have e1 := hF2.b1.cell 0
      have e2 := hF2.b2.cell 0
      simp only [List.getElem?_toArray, List.getElem?_cons_zero] at e0 e1 e2
      refine ⟨.tuple #[.int .i64 0, .bool false, .int .i64 5], by simp [results, Tryz.f56, go_sem, e0, e1, e2], .inr ⟨⟨i, hFull⟩, rfl, ?_⟩⟩
      exact hE.grown hgr (fun r e => by cases e; exact hD0)
end Go.Proofs.YtacpchapgklcgaaGreatDoor
end
section
set_option linter.unusedSimpArgs false
set_option linter.unusedVariables false
namespace Go.Proofs.YtacpchapgklcgaaGreatDoor
open Go Go.RowKit Go.Proofs
/-- The position of the head behind so many steps. -/
def posI (m : MachD) (c : ConfD) : Nat → Int
  | 0 => 0
  | t + 1 => posI m c t + (lookI m (cfgI m c t)).m
/-- The symbol of a configuration at a distance from its head. -/
def cellC (c : ConfD) (z : Int) : Int := if 0 ≤ z then c.r.getD z.toNat 0 else c.l.getD (-1 - z).toNat 0
theorem pushL_getD (s : Int) (xs : List Int) (i : Nat) : (pushL s xs).getD i 0 = (s :: xs).getD i 0 := by
  unfold pushL
  split
  · rename_i h
    obtain ⟨rfl, rfl⟩ := h
    cases i <;> simp
  · rfl
theorem drop1_getD (xs : List Int) (i : Nat) : (xs.drop 1).getD i 0 = xs.getD (i + 1) 0 := by
  simp [List.getD_eq_getElem?_getD, Nat.add_comm]
theorem cell_step {ru : RuleD} (hm : ru.m = 1 ∨ ru.m = -1) (c : ConfD) (z : Int) : cellC (stepI ru c) (z - ru.m) = if z = 0 then ru.w else cellC c z := by
  rcases hm with h | h
  · have e : stepI ru c = ⟨ru.n, pushL ru.w c.l, c.r.drop 1⟩ := by unfold stepI; rw [if_pos (by omega)]
    rw [e, h]
    unfold cellC
    simp only
    by_cases h0 : z = 0
    · subst h0
      rw [if_neg (by omega), if_pos rfl, pushL_getD]
      rfl
    · rw [if_neg h0]
      by_cases h1 : 0 ≤ z
      · rw [if_pos (show 0 ≤ z - 1 by omega), if_pos h1, drop1_getD]
        congr 1
        omega
      · rw [if_neg (show ¬ 0 ≤ z - 1 by omega), if_neg h1, pushL_getD]
        obtain ⟨k, hk⟩ : ∃ k : Nat, (-1 - (z - 1)).toNat = k + 1 := ⟨(-1 - z).toNat, by omega⟩
        rw [hk, List.getD_cons_succ]
        congr 1
        omega
  · have e : stepI ru c = ⟨ru.n, c.l.drop 1, pushL (hdD c.l) (pushL ru.w (c.r.drop 1))⟩ := by unfold stepI; rw [if_neg (by omega)]
    rw [e, h]
    unfold cellC
    simp only
    by_cases h0 : z = 0
    · subst h0
      rw [if_pos (by omega), if_pos rfl, pushL_getD]
      have : (0 - (-1 : Int)).toNat = 0 + 1 := by omega
      rw [this, List.getD_cons_succ, pushL_getD]
      rfl
    · rw [if_neg h0]
      by_cases h1 : 0 ≤ z
      · rw [if_pos (show 0 ≤ z - -1 by omega), if_pos h1, pushL_getD]
        obtain ⟨k, hk⟩ : ∃ k : Nat, z.toNat = k + 1 := ⟨z.toNat - 1, by omega⟩
        have : (z - -1).toNat = (k + 1) + 1 := by omega
        rw [this, List.getD_cons_succ, pushL_getD, List.getD_cons_succ, drop1_getD, hk]
      · rw [if_neg h1]
        by_cases h2 : z = -1
        · subst h2
          rw [if_pos (by omega), pushL_getD]
          rfl
        · rw [if_neg (show ¬ 0 ≤ z - -1 by omega), drop1_getD]
          congr 1
          omega
theorem hd_cell (c : ConfD) : hdD c.r = cellC c 0 := by simp [hdD, cellC]
theorem look_cell (m : MachD) {c e : ConfD} (hq : c.q = e.q) (hc : cellC c 0 = cellC e 0) : lookI m c = lookI m e := by
  unfold lookI
  rw [hd_cell, hd_cell, hq, hc]
theorem look_move {m : MachD} (hm : machOk m = true) {c : ConfD} (hc : IGood m c) (hn : ¬ lookI m c = noR) : (lookI m c).m = 1 ∨ (lookI m c).m = -1 := by
  obtain ⟨_, _, hall⟩ := machOk_five hm
  obtain ⟨k, hk, e⟩ := hc.idx hm
  rw [lookI_get hk e] at hn ⊢
  have hq := hall _ (List.getElem_mem hk)
  simp only [ruleOk, hn, decide_false, Bool.false_or, Bool.and_eq_true, Bool.or_eq_true, beq_iff_eq] at hq
  exact hq.1.2
/-- Two configurations agree on a set of places, seen from two heads at the same place u. -/
structure Mt (D : Int → Prop) (u : Int) (c e : ConfD) : Prop where
  q : c.q = e.q
  at_ : ∀ z, D z → cellC c (z - u) = cellC e (z - u)
theorem Mt.look {D : Int → Prop} {u : Int} {c e : ConfD} (h : Mt D u c e) (hu : D u) (m : MachD) : lookI m c = lookI m e :=
  look_cell m h.q (by have := h.at_ u hu; rwa [Int.sub_self] at this)
theorem Mt.step {D : Int → Prop} {u : Int} {c e : ConfD} (h : Mt D u c e) {ru : RuleD} (hm : ru.m = 1 ∨ ru.m = -1) : Mt D (u + ru.m) (stepI ru c) (stepI ru e) := by
  refine ⟨?_, fun z hz => ?_⟩
  · unfold stepI
    split <;> rfl
  · have e1 : z - (u + ru.m) = (z - u) - ru.m := by omega
    rw [e1, cell_step hm, cell_step hm, h.at_ z hz]
section
variable {m : MachD} (hm : machOk m = true) {c0 : ConfD} (hc0 : IGood m c0) {a b : Nat} {d : Int} {D : Int → Prop}
include hm hc0
/-- What comes again comes again for ever. -/
theorem shift_all (hb : 1 ≤ b) (hd : posI m c0 (a + b) - posI m c0 a = d) (hD : ∀ z, D z → D (z + d)) (hM : Mt D 0 (cfgI m c0 a) (cfgI m c0 (a + b)))
    (hin : ∀ i ≤ b, D (posI m c0 (a + i) - posI m c0 a)) (hno : ∀ i < a + b, ¬ lookI m (cfgI m c0 i) = noR) :
    ∀ i, (∀ j < a + i, ¬ lookI m (cfgI m c0 j) = noR) ∧ D (posI m c0 (a + i) - posI m c0 a) ∧ posI m c0 (a + b + i) - posI m c0 (a + b) = posI m c0 (a + i) - posI m c0 a ∧
      Mt D (posI m c0 (a + i) - posI m c0 a) (cfgI m c0 (a + i)) (cfgI m c0 (a + b + i)) ∧ ¬ lookI m (cfgI m c0 (a + i)) = noR := by
  intro i
  induction i using Nat.strongRecOn with
  | ind i ih =>
    have hlow : ∀ j < a + i, ¬ lookI m (cfgI m c0 j) = noR := fun j hj => by
      by_cases h : j < a
      · exact hno j (by omega)
      · have := (ih (j - a) (by omega)).2.2.2.2
        rwa [show a + (j - a) = j by omega] at this
    have hu : D (posI m c0 (a + i) - posI m c0 a) := by
      by_cases h : i ≤ b
      · exact hin i h
      · obtain ⟨_, h1, h2, _, _⟩ := ih (i - b) (by omega)
        have e : a + b + (i - b) = a + i := by omega
        rw [e] at h2
        have := hD _ h1
        rw [← h2] at this
        have e2 : posI m c0 (a + i) - posI m c0 (a + b) + d = posI m c0 (a + i) - posI m c0 a := by omega
        rwa [e2] at this
    have hmt : posI m c0 (a + b + i) - posI m c0 (a + b) = posI m c0 (a + i) - posI m c0 a ∧ Mt D (posI m c0 (a + i) - posI m c0 a) (cfgI m c0 (a + i)) (cfgI m c0 (a + b + i)) := by
      cases i with
      | zero => exact ⟨by simp, by simpa using hM⟩
      | succ i =>
        obtain ⟨_, h1, h2, h3, h4⟩ := ih i (by omega)
        have hl := h3.look h1 m
        have hmv := look_move hm (cfg_good hm hc0 (a + i) (fun j hj => hlow j (by omega))) h4
        have e1 : posI m c0 (a + (i + 1)) = posI m c0 (a + i) + (lookI m (cfgI m c0 (a + i))).m := rfl
        have e2 : posI m c0 (a + b + (i + 1)) = posI m c0 (a + b + i) + (lookI m (cfgI m c0 (a + b + i))).m := rfl
        refine ⟨by rw [e1, e2, ← hl]; omega, ?_⟩
        have e3 : cfgI m c0 (a + (i + 1)) = stepI (lookI m (cfgI m c0 (a + i))) (cfgI m c0 (a + i)) := rfl
        have e4 : cfgI m c0 (a + b + (i + 1)) = stepI (lookI m (cfgI m c0 (a + b + i))) (cfgI m c0 (a + b + i)) := rfl
        rw [e3, e4, e1, ← hl]
        have := h3.step hmv
        rwa [show posI m c0 (a + i) - posI m c0 a + (lookI m (cfgI m c0 (a + i))).m = posI m c0 (a + i) + (lookI m (cfgI m c0 (a + i))).m - posI m c0 a by omega] at this
    refine ⟨hlow, hu, hmt.1, hmt.2, ?_⟩
    by_cases h : i < b
    · exact hno (a + i) (by omega)
    · obtain ⟨_, h1, _, h3, h4⟩ := ih (i - b) (by omega)
      have hl := h3.look h1 m
      rw [show a + b + (i - b) = a + i by omega] at hl
      rwa [← hl]
theorem shift_times (hb : 1 ≤ b) (hd : posI m c0 (a + b) - posI m c0 a = d) (hD : ∀ z, D z → D (z + d)) (hM : Mt D 0 (cfgI m c0 a) (cfgI m c0 (a + b)))
    (hin : ∀ i ≤ b, D (posI m c0 (a + i) - posI m c0 a)) (hno : ∀ i < a + b, ¬ lookI m (cfgI m c0 i) = noR) (k : Nat) :
    (cfgI m c0 (a + k * b)).q = (cfgI m c0 a).q ∧ posI m c0 (a + k * b) - posI m c0 a = k * d := by
  induction k with
  | zero => simp
  | succ k ih =>
    obtain ⟨_, _, h2, h3, _⟩ := shift_all hm hc0 hb hd hD hM hin hno (k * b)
    have e : a + b + k * b = a + (k + 1) * b := by rw [Nat.succ_mul]; omega
    rw [e] at h2 h3
    refine ⟨h3.q.symm.trans ih.1, ?_⟩
    have : ((k + 1 : Nat) : Int) * d = k * d + d := by rw [Int.natCast_add, Int.add_mul]; simp
    rw [this]
    omega
end
theorem cfgI_add (m : MachD) (c : ConfD) (a : Nat) : ∀ k, cfgI m (cfgI m c a) k = cfgI m c (a + k) := by
  intro k
  induction k with
  | zero => rfl
  | succ k ih => rw [cfgI, ih]; rfl
/-- No blanks at the end. -/
def tidyL (xs : List Int) : Prop := xs = [] ∨ xs.getLastD 0 ≠ 0
theorem tidy_drop {xs : List Int} (h : tidyL xs) : tidyL (xs.drop 1) := by
  cases xs with
  | nil => exact .inl rfl
  | cons a l =>
    cases l with
    | nil => exact .inl rfl
    | cons b l =>
      right
      rcases h with h | h
      · cases h
      · simpa using h
theorem tidy_push {s : Int} {xs : List Int} (h : tidyL xs) : tidyL (pushL s xs) := by
  unfold pushL
  split
  · exact .inl rfl
  · rename_i hn
    right
    cases xs with
    | nil => simp at hn; simpa using hn
    | cons a l =>
      rcases h with h | h
      · cases h
      · simpa using h
theorem tidy_step {ru : RuleD} {c : ConfD} (h : tidyL c.l ∧ tidyL c.r) : tidyL (stepI ru c).l ∧ tidyL (stepI ru c).r := by
  unfold stepI
  split
  · exact ⟨tidy_push h.1, tidy_drop h.2⟩
  · exact ⟨tidy_drop h.1, tidy_push (tidy_push (tidy_drop h.2))⟩
theorem tidy_cfg {m : MachD} {c : ConfD} (h : tidyL c.l ∧ tidyL c.r) : ∀ n, tidyL (cfgI m c n).l ∧ tidyL (cfgI m c n).r := by
  intro n
  induction n with
  | zero => exact h
  | succ n ih => exact tidy_step ih
theorem len_cfg (m : MachD) (c : ConfD) (n : Nat) : (cfgI m c n).l.length ≤ c.l.length + n ∧ (cfgI m c n).r.length ≤ c.r.length + n + 1 := by
  induction n with
  | zero => exact ⟨by simp [cfgI], by simp [cfgI]⟩
  | succ n ih =>
    have e : cfgI m c (n + 1) = stepI (lookI m (cfgI m c n)) (cfgI m c n) := rfl
    rw [e]
    generalize lookI m (cfgI m c n) = ru
    generalize cfgI m c n = x at *
    unfold stepI
    split
    · have := pushL_len ru.w x.l
      refine ⟨by simp only; omega, by simp; omega⟩
    · have h1 := pushL_len ru.w (x.r.drop 1)
      have h2 := pushL_len (hdD x.l) (pushL ru.w (x.r.drop 1))
      simp only [List.length_drop] at h1
      refine ⟨by simp; omega, by simp only; omega⟩
end Go.Proofs.YtacpchapgklcgaaGreatDoor
end
