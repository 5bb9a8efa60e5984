/- Contract of the program's run of a machine by its runner. The machine is valid and the configuration is one of its. -/
import Derived.Test.YtpdnmhhieokogaaRunx
import Derived.Deep.RegionHeld3
set_option linter.unusedSimpArgs false
set_option linter.unusedVariables false
namespace Go.Proofs.Ytpdnmhhieokogaa
open Go Go.RowKit Go.Proofs Go.Shelf
attribute [local go_sem] Oper.semAt_some
set_option maxHeartbeats 400000
section
variable {w0 : World} {b k : Nat} {m : MachD} {c : ConfD} {mv : Value} {N B : Nat}
theorem FourR.turn {W W' : World} {a e n : Int} {s : Bool} (h : FourR W k a s e n) {row : Option Nat} (hg : W.grownBy W' row) (hr : ∀ r, row = some r → ∃ o : Obj, W.heap[r]? = some o ∧ o.isCells = false) : FourR W' k a s e n := by
  refine ⟨h.b0.kept hg (fun e => ?_), h.b1.kept hg (fun e => ?_), h.b2.kept hg (fun e => ?_), h.b3.kept hg (fun e => ?_)⟩
  · exact not_cells (o := .cells #[] 0) h.b0 (hr _ e.symm)
  · exact not_cells (o := .cells #[] 0) h.b1 (hr _ e.symm)
  · exact not_cells (o := .cells #[] 0) h.b2 (hr _ e.symm)
  · exact not_cells (o := .cells #[] 0) h.b3 (hr _ e.symm)
theorem iRun_own (h0 : w0.heap.size ≤ B) : OwnFrom B (IRun w0 b m mv k) := by
  rintro s W W' row ⟨⟨d, lv, rv, hR, hA⟩, hF, hT⟩ hg hr
  exact ⟨⟨d, lv, rv, hR.turn hg (fun r e => ⟨Nat.le_trans h0 (hr r e).1, (hr r e).2⟩), hA⟩, hF.turn hg (fun r e => (hr r e).2), hT⟩
theorem ixRun_own (h0 : w0.heap.size ≤ B) (cd : Code) : OwnFrom B (IxRun w0 k cd) := by
  rintro s W W' row ⟨h1, h2, ⟨n, hF⟩, hE⟩ hg hr
  exact ⟨h1, h2, ⟨n, hF.turn hg (fun r e => (hr r e).2)⟩, hE.grown hg (fun r e => Nat.le_trans h0 (hr r e).1)⟩
theorem iRun_w (s : List (Int × Bool)) (X Y : World) (h : IRun w0 b m mv k s X) (hw : WrR w0 b m mv X Y) : IRun w0 b m mv k s Y := by
  obtain ⟨⟨d, lv, rv, hR, hA⟩, hF, hT⟩ := h
  obtain ⟨d1, l1, r1, d2, l2, r2, h1, h2, hm⟩ := hw
  obtain ⟨rfl, rfl⟩ := hR.vals h1
  have hlt := hF.lt
  exact ⟨⟨d2, l2, r2, h2, fun i hi => ((hA i hi).moved hm (by omega)).1⟩, hF.same (fun i hi => ((hA i hi).moved hm (by omega)).2), hT⟩
theorem stR_own (h0 : w0.heap.size ≤ B) (pre : List (Int × Bool)) (x : Int × Bool) : OwnFrom B (fun (_ : Unit) W => StR w0 b m c mv N pre x W) := by
  rintro s W W' row ⟨i, lv, rv, hR, h2⟩ hg hr
  exact ⟨i, lv, rv, hR.turn hg (fun r e => ⟨Nat.le_trans h0 (hr r e).1, (hr r e).2⟩), h2⟩
theorem sR_own (h0 : w0.heap.size ≤ B) : OwnFrom B (SR w0 b m c mv N) := by
  rintro s W W' row ⟨i, lv, rv, p, hR, h2⟩ hg hr
  exact ⟨i, lv, rv, p, hR.turn hg (fun r e => ⟨Nat.le_trans h0 (hr r e).1, (hr r e).2⟩), h2⟩
theorem spR_own (h0 : w0.heap.size ≤ B) : OwnFrom B (SpR w0 b m c mv N) := by
  rintro s W W' row ⟨i, lv, rv, p, hR, h2⟩ hg hr
  exact ⟨i, lv, rv, p, hR.turn hg (fun r e => ⟨Nat.le_trans h0 (hr r e).1, (hr r e).2⟩), h2⟩
end
theorem kp_set {w0 W : World} {b bq bp : Nat} {m : MachD} {d : ConfD} {mv lv rv : Value} (h : RunAt w0 W b m d mv lv rv) {p : Addr} (ha : Apt b p.block lv rv) (h0 : w0.heap.size ≤ p.block) (hq : bq ≠ p.block) (hp : bp ≠ p.block) (u : Value) :
    KpR w0 b bq bp m mv W (W.setCell p u) ∧ RunAt w0 (W.setCell p u) b m d mv lv rv := by
  refine ⟨⟨(grownBy_setCell W p u).size, fun d' l' r' h' => ?_, Below.heap_setCell W p u bq hq, Below.heap_setCell W p u bp hp⟩, h.apart ha.nb ha.nl ha.nr h0 u⟩
  obtain ⟨rfl, rfl⟩ := h.vals h'
  exact h'.apart ha.nb ha.nl ha.nr h0 u
theorem FourR.set0 {W : World} {k : Nat} {a e n : Int} {s : Bool} (h : FourR W k a s e n) (x : Int) : FourR (W.setCell ⟨k, 0, none⟩ (.int .i64 x)) k x s e n :=
  ⟨h.b0.set_ 0 _, h.b1.far (by simp) _, h.b2.far (by simp) _, h.b3.far (by simp) _⟩
theorem FourR.set1 {W : World} {k : Nat} {a e n : Int} {s : Bool} (h : FourR W k a s e n) (x : Bool) : FourR (W.setCell ⟨k + 1, 0, none⟩ (.bool x)) k a x e n :=
  ⟨h.b0.far (by simp) _, h.b1.set_ 0 _, h.b2.far (by simp) _, h.b3.far (by simp) _⟩
theorem FourR.set2 {W : World} {k : Nat} {a e n : Int} {s : Bool} (h : FourR W k a s e n) (x : Int) : FourR (W.setCell ⟨k + 1 + 1, 0, none⟩ (.int .i64 x)) k a s x n :=
  ⟨h.b0.far (by show k ≠ k + 1 + 1; omega) _, h.b1.far (by simp) _, h.b2.set_ 0 _, h.b3.far (by simp) _⟩
theorem FourR.set3 {W : World} {k : Nat} {a e n : Int} {s : Bool} (h : FourR W k a s e n) (x : Int) : FourR (W.setCell ⟨k + 1 + 1 + 1, 0, none⟩ (.int .i64 x)) k a s e x :=
  ⟨h.b0.far (by show k ≠ k + 1 + 1 + 1; omega) _, h.b1.far (by show k + 1 ≠ k + 1 + 1 + 1; omega) _, h.b2.far (by simp) _, h.b3.set_ 0 _⟩
set_option maxRecDepth 100000 in
set_option maxHeartbeats 4000000 in
theorem run_c (w0 w : World) (b : Nat) (m : MachD) (c : ConfD) (mv lv rv : Value) (N : Nat) (hN : N ≤ 100000) (hm : machOk m = true) (hg : IGood m c) (hf : fitI c = true) (h : RunAt w0 w b m c mv lv rv) :
    Calls Try.prog 34 #[.pointer (some ⟨b, 0, none⟩), .int .i64 N] w (RunOut w0 b m c mv N) := by
  refine (callsIn_wide (n := 8)).1 ?_
  refine callsIn_of_wp_marks Try.func34 rfl trivial ?_ rfl
  simp only [Try.ntmps34, List.size_toArray, List.length_cons, List.length_nil, Nat.reduceAdd, Nat.reduceSub, Array.replicate_succ, Array.replicate_zero, List.push_toArray, List.append_toArray, List.nil_append, List.cons_append]
  gi_wp2_with (refine ⟨trivial, ?_⟩; gi_at_call 59; refine (callsIn_wide.2 (steps_c _ (N : Int) _ ⟨_, rfl⟩)).mono ?_; rintro e w' ⟨rfl, rfl⟩)
  have hbl := h.blk.lt
  obtain ⟨W, hW⟩ : ∃ W, W = ((((((w.alloc (.cells #[.int .i64 0] 2)).alloc (.cells #[.bool false] 4)).alloc (.cells #[.int .i64 0] 2)).alloc (.cells #[.int .i64 0] 2)).alloc (.cells #[.pointer (some ⟨b, 0, none⟩)] 58)).alloc (.cells #[.int .i64 (N : Int)] 2)) := ⟨_, rfl⟩
  have hXW : Ext w W := by rw [hW]; exact (((((Ext.alloc _ _).trans (Ext.alloc _ _)).trans (Ext.alloc _ _)).trans (Ext.alloc _ _)).trans (Ext.alloc _ _)).trans (Ext.alloc _ _)
  have hF : FourR W w.heap.size 0 false 0 0 := by
    rw [hW]
    exact ⟨((((((Blk.new _ _ _ _ rfl).alloc _).alloc _).alloc _).alloc _).alloc _), (((((Blk.new _ _ _ _ (by simp)).alloc _).alloc _).alloc _).alloc _), ((((Blk.new _ _ _ _ (by simp)).alloc _).alloc _).alloc _), (((Blk.new _ _ _ _ (by simp)).alloc _).alloc _)⟩
  have hR := h.ext hXW
  have hap : ∀ i, w.heap.size ≤ i → Apt b i lv rv := fun i hi => ⟨by omega, fun e => by have := (h.l.lt i e).2; omega, fun e => by have := (h.r.lt i e).2; omega⟩
  have hB : BoxR W b (w.heap.size + 1 + 1 + 1 + 1 + 1) (w.heap.size + 1 + 1 + 1 + 1) N lv rv := by
    have a5 := hap (w.heap.size + 1 + 1 + 1 + 1 + 1) (by omega)
    have a4 := hap (w.heap.size + 1 + 1 + 1 + 1) (by omega)
    refine ⟨?_, ?_, a5.nl, a5.nr, a4.nl, a4.nr, a5.nb, a4.nb⟩
    · rw [hW]; exact Blk.new _ _ _ _ (by simp)
    · rw [hW]; exact (Blk.new _ _ _ _ (by simp)).alloc _
  have hsz : W.heap.size = w.heap.size + 1 + 1 + 1 + 1 + 1 + 1 := by rw [hW]; simp
  rw [← hW]
  clear hW
  have hlow : w0.heap.size ≤ W.heap.size := hR.ext0.size
  obtain ⟨k, hk⟩ : ∃ k, k = w.heap.size := ⟨_, rfl⟩
  rw [← hk] at hF hap hB hsz ⊢
  have hw0k : w0.heap.size ≤ k := by rw [hk]; exact h.ext0.size
  clear hk h
  have h1 : 1 ≤ 8 := by omega
  refine wpIn_rangeFunc_W rfl h1 (gf := 75) (lb := #[.pointer (some ⟨k + 1 + 1 + 1 + 1 + 1, 0, none⟩), .pointer (some ⟨k + 1 + 1 + 1 + 1, 0, none⟩)]) rfl trivial (enters_of Try.func75 (by kernel_rfl) rfl)
    (steps1_w (8 - 1) (by omega) w0 W b (k + 1 + 1 + 1 + 1 + 1) (k + 1 + 1 + 1 + 1) m c mv lv rv N hN hm hg hf hR hB) (fun h k => KpR.trans h k) (fun W l o o' hl h1 h2 _ => KpR.turn W l o o' (by omega) (by omega) (by omega) h1 h2) (Below.refl _ _) (fun _ => rfl)
    (fun A B h => WrR.keeps h) (IRun w0 b m mv k) (IxRun w0 k) (iRun_own hlow) (ixRun_own hlow) iRun_w (stR_own hlow) (sR_own hlow) (spR_own hlow)
    ⟨⟨_, lv, rv, hR, fun i _ => hap (k + i) (by omega)⟩, hF, fun x hx => by cases hx⟩
    (fun x => { tmps := #[.pointer (some ⟨b, 0, none⟩), .int .i64 (N : Int), undef, undef, .pointer (some ⟨k, 0, none⟩), .pointer (some ⟨k + 1, 0, none⟩), .pointer (some ⟨k + 1 + 1, 0, none⟩), .pointer (some ⟨k + 1 + 1 + 1, 0, none⟩), .int .i64 x.1, .bool x.2, .pointer (some ⟨b, 0, none⟩), .int .i64 (N : Int), .func (.func 75) #[] #[.pointer (some ⟨k + 1 + 1 + 1 + 1 + 1, 0, none⟩), .pointer (some ⟨k + 1 + 1 + 1 + 1, 0, none⟩)], .int .i64 x.1, .bool x.2, undef, undef, undef, undef, undef, undef], defers := [] }) ?assign ?body ?done ?stop
  case assign =>
    intro l x W K hK
    gi_wp2
    exact hK
  case body =>
    rintro l pre ⟨n, room⟩ W' ⟨⟨d, l1, r1, hR1, hA1⟩, hF1, hT1⟩ hst _
    have c0 := hF1.b0.cell 0
    have c1 := hF1.b1.cell 0
    have c2 := hF1.b2.cell 0
    have c3 := hF1.b3.cell 0
    have f0 := hF1.b0.frozen 0
    have f1 := hF1.b1.frozen 0
    have f2 := hF1.b2.frozen 0
    have f3 := hF1.b3.frozen 0
    simp only [List.getElem?_toArray, List.getElem?_cons_zero] at c0 c1 c2 c3
    have a0 := hA1 0 (by omega)
    have a1 := hA1 1 (by omega)
    have a2 := hA1 2 (by omega)
    have a3 := hA1 3 (by omega)
    cases room with
    | true =>
      gi_wp2
      obtain ⟨hK3, hR3⟩ := kp_set (bq := k + 1 + 1 + 1 + 1 + 1) (bp := k + 1 + 1 + 1 + 1) (p := ⟨k + 1 + 1 + 1, 0, none⟩) hR1 a3 (by show w0.heap.size ≤ k + 1 + 1 + 1; omega) (by show k + 1 + 1 + 1 + 1 + 1 ≠ k + 1 + 1 + 1; omega) (by show k + 1 + 1 + 1 + 1 ≠ k + 1 + 1 + 1; omega) (.int .i64 n)
      refine ⟨(KeepsOthers.setCell _ _ _).from _, hK3, ⟨_, l1, r1, hR3, hA1⟩, by rw [lastN_snoc]; exact hF1.set3 n, fun x hx => ?_⟩
      rcases List.mem_append.1 hx with hx | hx
      · exact hT1 x hx
      · simp at hx; rw [hx]
    | false =>
      gi_wp2
      obtain ⟨hK1, hR2⟩ := kp_set (bq := k + 1 + 1 + 1 + 1 + 1) (bp := k + 1 + 1 + 1 + 1) (p := ⟨k, 0, none⟩) hR1 a0 hw0k (by show k + 1 + 1 + 1 + 1 + 1 ≠ k; omega) (by show k + 1 + 1 + 1 + 1 ≠ k; omega) (.int .i64 0)
      obtain ⟨hK2, hR3⟩ := kp_set (bq := k + 1 + 1 + 1 + 1 + 1) (bp := k + 1 + 1 + 1 + 1) (p := ⟨k + 1, 0, none⟩) hR2 a1 (by show w0.heap.size ≤ k + 1; omega) (by show k + 1 + 1 + 1 + 1 + 1 ≠ k + 1; omega) (by show k + 1 + 1 + 1 + 1 ≠ k + 1; omega) (.bool false)
      obtain ⟨hK3, hR4⟩ := kp_set (bq := k + 1 + 1 + 1 + 1 + 1) (bp := k + 1 + 1 + 1 + 1) (p := ⟨k + 1 + 1, 0, none⟩) hR3 a2 (by show w0.heap.size ≤ k + 1 + 1; omega) (by show k + 1 + 1 + 1 + 1 + 1 ≠ k + 1 + 1; omega) (by show k + 1 + 1 + 1 + 1 ≠ k + 1 + 1; omega) (.int .i64 5)
      exact ⟨(((KeepsOthers.setCell _ _ _).trans (KeepsOthers.setCell _ _ _)).trans (KeepsOthers.setCell _ _ _)).from _, (hK1.trans hK2).trans hK3, rfl, ⟨pre, (n, false), rfl, rfl⟩, ⟨_, ((hF1.set0 0).set1 false).set2 5⟩, hR4.ext0⟩
  case done =>
    rintro D xs W' hD ⟨i, l2, r2, p, hR2, hcase⟩ ⟨⟨d, l1, r1, hR1, hA1⟩, hF1, hT1⟩ hK
    rcases hcase with ⟨rfl, hEnd⟩ | ⟨rfl, _⟩
    · obtain ⟨rfl, rfl⟩ := hR2.vals hR1
      rw [lastN_snoc] at hF1
      have hgi : IGood m (cfgI m c i) := cfg_good hm hg i hEnd.runs.no
      have hfi := fit_both (hEnd.runs.fit i (Nat.le_refl _))
      have hH := fun w' h => halts_c w0 w' b m _ mv l2 r2 h (by omega) hm hgi
      have HEND := Lib.hid hEnd
      have hRd := hR2.ext (Ext.drew W')
      have c3 := hF1.b3.cell 0
      simp only [List.getElem?_toArray, List.getElem?_cons_zero] at c3
      have c3d := (Ext.drew W').cell c3
      gi_wp2
      refine wpIn_wide.2 ?_
      go_region_held3 (fun w' => w'.cell? ⟨k + 1 + 1 + 1, 0, none⟩ = some (.int .i64 (i : Int)))
        (first | go_keep | exact c34 | (rw [World.cell?_setCell_other _ _ _ _ (fun e => by injection e with e; omega)]; exact c34) | (rw [World.cell?_setCell_other _ _ _ _ (fun e => by injection e with e; omega)]; rw [World.cell?_setCell_other _ _ _ _ (fun e => by injection e with e; omega)]; exact c34) | (rw [World.cell?_setCell_other _ _ _ _ (fun e => by injection e with e; omega)]; rw [World.cell?_setCell_other _ _ _ _ (fun e => by injection e with e; omega)]; rw [World.cell?_setCell_other _ _ _ _ (fun e => by injection e with e; omega)]; exact c34))
        (first
          | (go_at_call 54; ((with_reducible refine (hH _ hRd).mono ?_)); rintro e w4 ⟨rfl, hx4⟩; have c34 := hx4.cell c3d; have hF4 := hF1.turn (⟨Below.os ((Ext.drew W').trans hx4), Below.tape ((Ext.drew W').trans hx4), Below.output ((Ext.drew W').trans hx4), Ext.size ((Ext.drew W').trans hx4), fun q hq _ => Below.block ((Ext.drew W').trans hx4) q hq⟩ : W'.grownBy w4 none) (fun r e => by cases e); have z0 := hF4.b0.cell 0; have z1 := hF4.b1.cell 0; have z2 := hF4.b2.cell 0; have y0 := hF4.b0.frozen 0; have y1 := hF4.b1.frozen 0; have y2 := hF4.b2.frozen 0))
      have hE4 := (Ext.drew W').trans hx4
      have hK4 : w4.heap[D]? = some (.deferred (some [])) := hE4.block hK
      have R4 := hRd.ext hx4
      have a0 := hA1 0 (by omega)
      have a1 := hA1 1 (by omega)
      have a2 := hA1 2 (by omega)
      obtain ⟨hb, hhb⟩ : ∃ x, decide (lookI m (cfgI m c i) = noR) = x := ⟨_, rfl⟩
      rw [hhb]
      have HHB := Lib.hid hhb
      clear hhb
      have R5 := R4.apart (p := ⟨k, 0, none⟩) a0.nb a0.nl a0.nr hw0k (.int .i64 (i : Int))
      have R6 := R5.apart (p := ⟨k + 1, 0, none⟩) a1.nb a1.nl a1.nr (by show w0.heap.size ≤ k + 1; omega) (.bool hb)
      have R7 := R6.apart (p := ⟨k + 1 + 1, 0, none⟩) a2.nb a2.nl a2.nr (by show w0.heap.size ≤ k + 1 + 1; omega) (.int .i64 0)
      have F7 := ((hF4.set0 (i : Int)).set1 hb).set2 0
      have K7 := (KeepsOthers.setCell _ ⟨k + 1 + 1, 0, none⟩ (.int .i64 0)).same D _ ((KeepsOthers.setCell _ ⟨k + 1, 0, none⟩ (.bool hb)).same D _ ((KeepsOthers.setCell w4 ⟨k, 0, none⟩ (.int .i64 (i : Int))).same D _ hK4 rfl) rfl) rfl
      clear z0 z1 z2 y0 y1 y2 c34 c3 c3d
      generalize ((w4.setCell ⟨k, 0, none⟩ (.int .i64 (i : Int))).setCell ⟨k + 1, 0, none⟩ (.bool hb)).setCell ⟨k + 1 + 1, 0, none⟩ (.int .i64 0) = W7 at *
      gi_wp2
      refine ⟨by simp, .inl ⟨_, _, rfl, run_takeDeferred K7, ?_⟩⟩
      have hD0 : w0.heap.size ≤ D := by omega
      have hgr := grownBy_putObj' W7 D (.deferred none)
      have hF2 := F7.turn hgr (fun r e => by cases e; exact ⟨_, K7, rfl⟩)
      have e0 := hF2.b0.cell 0
      have e1 := hF2.b1.cell 0
      have e2 := hF2.b2.cell 0
      simp only [List.getElem?_toArray, List.getElem?_cons_zero] at e0 e1 e2
      refine ⟨.tuple #[.int .i64 (i : Int), .bool hb, .int .i64 0], by simp [results, Try.f34, go_sem, e0, e1, e2], .inl ⟨i, l2, r2, HEND.out, by rw [HHB.out], ?_⟩⟩
      exact R7.turn hgr (fun r e => by cases e; exact ⟨hD0, _, K7, rfl⟩)
    · exact absurd (hT1 _ (List.mem_append.2 (.inr (List.mem_singleton.2 rfl)))) (by simp)
  case stop =>
    rintro D cd pre W' hD ⟨i, l2, r2, p, hR2, hcase⟩ ⟨rfl, ⟨p', x, hpx, hx2⟩, ⟨n, hF1⟩, hE⟩ hK
    rcases hcase with ⟨rfl, _⟩ | ⟨rfl, hFull⟩
    · have := List.append_inj_right' hpx rfl
      simp at this
      rw [← this] at hx2
      simp at hx2
    · have c0 := hF1.b0.cell 0
      have c1 := hF1.b1.cell 0
      have c2 := hF1.b2.cell 0
      simp only [List.getElem?_toArray, List.getElem?_cons_zero] at c0 c1 c2
      gi_wp2
      refine ⟨by simp, .inl ⟨_, _, rfl, run_takeDeferred hK, ?_⟩⟩
      have hD0 : w0.heap.size ≤ D := by omega
      have hgr := grownBy_putObj' W' D (.deferred none)
      have hF2 := hF1.turn hgr (fun r e => by cases e; exact ⟨_, hK, rfl⟩)
      have e0 := hF2.b0.cell 0
      have e1 := hF2.b1.cell 0
      have e2 := hF2.b2.cell 0
      simp only [List.getElem?_toArray, List.getElem?_cons_zero] at e0 e1 e2
      refine ⟨.tuple #[.int .i64 0, .bool false, .int .i64 5], by simp [results, Try.f34, go_sem, e0, e1, e2], .inr ⟨⟨i, hFull⟩, rfl, ?_⟩⟩
      exact hE.grown hgr (fun r e => by cases e; exact hD0)
end Go.Proofs.Ytpdnmhhieokogaa
