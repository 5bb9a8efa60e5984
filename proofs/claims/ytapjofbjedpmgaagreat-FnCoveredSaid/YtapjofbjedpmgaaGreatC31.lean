/- Contract of the step of the program's runner of a machine. The machine is valid and the configuration is one of its, with at most 200 cells on each side.
Contract of the step of the program's runner of a machine. The machine is valid and the configuration is one of its, with at most 200 cells on each side.
Contracts of the program's makers of a runner and of its configuration. -/
import Derived.Test.YtapjofbjedpmgaaGreatC19
import Derived.Test.YtapjofbjedpmgaaGreatC13
import Derived.Deep.RegionHeld3
section
set_option linter.unusedSimpArgs false
set_option linter.unusedVariables false
namespace Go.Proofs.YtapjofbjedpmgaaGreat
open Go Go.RowKit Go.Proofs
set_option maxHeartbeats 400000
/-- Only the runner's blocks, and new ones, are touched. -/
structure Moved (b : Nat) (w w' : World) (lv rv lv' rv' : Value) : Prop where
  os : w'.os = w.os
  tape : w'.tape = w.tape
  output : w'.output = w.output
  size : w.heap.size ≤ w'.heap.size
  same : ∀ k, k < w.heap.size → k ≠ b → lv.ownBlock ≠ some k → rv.ownBlock ≠ some k → w'.heap[k]? = w.heap[k]?
  newl : ∀ g, lv'.ownBlock = some g → lv.ownBlock = some g ∨ rv.ownBlock = some g ∨ w.heap.size ≤ g
  newr : ∀ g, rv'.ownBlock = some g → lv.ownBlock = some g ∨ rv.ownBlock = some g ∨ w.heap.size ≤ g
theorem Moved.ofExt {b : Nat} {w w' : World} {lv rv : Value} (h : Ext w w') : Moved b w w' lv rv lv rv :=
  ⟨Below.os h, Below.tape h, Below.output h, Ext.size h, fun k hk _ _ _ => Below.block h k hk, fun g hg => .inl hg, fun g hg => .inr (.inl hg)⟩
theorem Moved.trans {b : Nat} {w w1 w2 : World} {lv rv l1 r1 l2 r2 : Value} (h : Moved b w w1 lv rv l1 r1) (k : Moved b w1 w2 l1 r1 l2 r2) : Moved b w w2 lv rv l2 r2 := by
  have hs := h.size
  refine ⟨k.os.trans h.os, k.tape.trans h.tape, k.output.trans h.output, Nat.le_trans h.size k.size, fun i hi hb hl hr => ?_, fun g hg => ?_, fun g hg => ?_⟩
  · refine (k.same i (by omega) hb (fun e => ?_) (fun e => ?_)).trans (h.same i hi hb hl hr)
    · rcases h.newl i e with e | e | e
      · exact hl e
      · exact hr e
      · omega
    · rcases h.newr i e with e | e | e
      · exact hl e
      · exact hr e
      · omega
  · rcases k.newl g hg with e | e | e
    · exact h.newl g e
    · exact h.newr g e
    · exact .inr (.inr (by omega))
  · rcases k.newr g hg with e | e | e
    · exact h.newl g e
    · exact h.newr g e
    · exact .inr (.inr (by omega))
theorem Pushed.ext0 {w0 w w' : World} {v u : Value} (h : Pushed w w' v u) (h0 : Ext w0 w) (hv : ∀ g, v.ownBlock = some g → w0.heap.size ≤ g) : Ext w0 w' :=
  ⟨h.os.trans (Below.os h0), h.tape.trans (Below.tape h0), h.output.trans (Below.output h0), Nat.le_trans (Ext.size h0) h.size, fun k hk => (h.same k (by have := Ext.size h0; omega) (fun e => by have := hv k e; omega)).trans (Below.block h0 k hk)⟩
theorem Pushed.refl (w : World) (v u : Value) (hu : u.ownBlock = v.ownBlock) : Pushed w w v u := ⟨rfl, rfl, rfl, Nat.le_refl _, fun _ _ _ => rfl, fun g hg => .inl (by rw [← hu]; exact hg)⟩
theorem Pushed.trans {w w1 w2 : World} {v u x : Value} (h : Pushed w w1 v u) (k : Pushed w1 w2 u x) : Pushed w w2 v x := by
  have hs := h.size
  refine ⟨k.os.trans h.os, k.tape.trans h.tape, k.output.trans h.output, Nat.le_trans h.size k.size, fun i hi hv => (k.same i (by omega) (fun e => ?_)).trans (h.same i hi hv), fun g hg => ?_⟩
  · rcases h.new i e with e | e
    · exact hv e
    · omega
  · rcases k.new g hg with e | e
    · exact h.new g e
    · exact .inr (by omega)
section
variable {w0 w w' : World} {b : Nat} {m : MachD} {c : ConfD} {mv lv rv u : Value}
theorem RunAt.lne (h : RunAt w0 w b m c mv lv rv) : ∀ k, lv.ownBlock = some k → k ≠ b := fun k hk e => by
  subst e
  exact blk_ne_row h.blk h.l (by decide) hk.symm
theorem RunAt.rne (h : RunAt w0 w b m c mv lv rv) : ∀ k, rv.ownBlock = some k → k ≠ b := fun k hk e => by
  subst e
  exact blk_ne_row h.blk h.r (by decide) hk.symm
theorem RunAt.setR (h : RunAt w0 w b m c mv lv rv) {r' : List Int} (ho : OwnInts w0.heap.size w' u r'.reverse) (hp : Pushed w w' rv u) :
    RunAt w0 (w'.setCell ⟨b, 5, none⟩ u) b m ⟨c.q, c.l, r'⟩ mv lv u ∧ Moved b w (w'.setCell ⟨b, 5, none⟩ u) lv rv lv u := by
  have hb := h.blk.lt
  have hB : Blk w' b 119 #[.int .i64 m.sy, .int .i64 m.st, mv, .int .i64 c.q, lv, rv] := (hp.same b hb (fun e => h.rne b e rfl)).trans h.blk
  have hL : OwnInts w0.heap.size w' lv c.l.reverse := own_same h.l (fun g hg => hp.same g (h.l.lt g hg).2 (h.ap g hg))
  have hu : ∀ k, u.ownBlock = some k → k ≠ b := fun k hk => by
    rcases hp.new k hk with e | e
    · exact h.rne k e
    · omega
  have hE := hp.ext0 h.ext0 (fun g hg => (h.r.lt g hg).1)
  have hgs := grownBy_setCell w' ⟨b, 5, none⟩ u
  refine ⟨⟨hB.set_ 5 u, h.rules0, hE.setCell (by show w0.heap.size ≤ b; exact h.low) u, ownsRow_far hL h.lne u, ownsRow_far ho hu u, fun g hg hk => ?_, h.low⟩, ?_⟩
  · rcases hp.new g hk with e | e
    · exact h.ap g hg e
    · have := (h.l.lt g hg).2; omega
  · refine ⟨hgs.os.trans hp.os, hgs.tape.trans hp.tape, hgs.output.trans hp.output, Nat.le_trans hp.size hgs.size, fun k hk hkb hl hr => ?_, fun g hg => .inl hg, fun g hg => ?_⟩
    · exact (hgs.block k (by have := hp.size; omega) (fun e => hkb (by injection e))).trans (hp.same k hk hr)
    · rcases hp.new g hg with e | e
      · exact .inr (.inl e)
      · exact .inr (.inr e)
theorem RunAt.setL (h : RunAt w0 w b m c mv lv rv) {l' : List Int} (ho : OwnInts w0.heap.size w' u l'.reverse) (hp : Pushed w w' lv u) :
    RunAt w0 (w'.setCell ⟨b, 4, none⟩ u) b m ⟨c.q, l', c.r⟩ mv u rv ∧ Moved b w (w'.setCell ⟨b, 4, none⟩ u) lv rv u rv := by
  have hb := h.blk.lt
  have hB : Blk w' b 119 #[.int .i64 m.sy, .int .i64 m.st, mv, .int .i64 c.q, lv, rv] := (hp.same b hb (fun e => h.lne b e rfl)).trans h.blk
  have hR : OwnInts w0.heap.size w' rv c.r.reverse := own_same h.r (fun g hg => hp.same g (h.r.lt g hg).2 (fun e => h.ap g e hg))
  have hu : ∀ k, u.ownBlock = some k → k ≠ b := fun k hk => by
    rcases hp.new k hk with e | e
    · exact h.lne k e
    · omega
  have hE := hp.ext0 h.ext0 (fun g hg => (h.l.lt g hg).1)
  have hgs := grownBy_setCell w' ⟨b, 4, none⟩ u
  refine ⟨⟨hB.set_ 4 u, h.rules0, hE.setCell (by show w0.heap.size ≤ b; exact h.low) u, ownsRow_far ho hu u, ownsRow_far hR h.rne u, fun g hg hk => ?_, h.low⟩, ?_⟩
  · rcases hp.new g hg with e | e
    · exact h.ap g e hk
    · have := (h.r.lt g hk).2; omega
  · refine ⟨hgs.os.trans hp.os, hgs.tape.trans hp.tape, hgs.output.trans hp.output, Nat.le_trans hp.size hgs.size, fun k hk hkb hl hr => ?_, fun g hg => ?_, fun g hg => .inr (.inl hg)⟩
    · exact (hgs.block k (by have := hp.size; omega) (fun e => hkb (by injection e))).trans (hp.same k hk hl)
    · rcases hp.new g hg with e | e
      · exact .inl e
      · exact .inr (.inr e)
theorem RunAt.setQ (h : RunAt w0 w b m c mv lv rv) (q : Int) :
    RunAt w0 (w.setCell ⟨b, 3, none⟩ (.int .i64 q)) b m ⟨q, c.l, c.r⟩ mv lv rv ∧ Moved b w (w.setCell ⟨b, 3, none⟩ (.int .i64 q)) lv rv lv rv := by
  have hgs := grownBy_setCell w ⟨b, 3, none⟩ (.int .i64 q)
  refine ⟨⟨h.blk.set_ 3 _, h.rules0, h.ext0.setCell (by show w0.heap.size ≤ b; exact h.low) _, ownsRow_far h.l h.lne _, ownsRow_far h.r h.rne _, h.ap, h.low⟩, ?_⟩
  exact ⟨hgs.os, hgs.tape, hgs.output, hgs.size, fun k hk hkb _ _ => hgs.block k hk (fun e => hkb (by injection e)), fun g hg => .inl hg, fun g hg => .inr (.inl hg)⟩
end
end Go.Proofs.YtapjofbjedpmgaaGreat
end
section
set_option linter.unusedSimpArgs false
set_option linter.unusedVariables false
namespace Go.Proofs.YtapjofbjedpmgaaGreat
open Go Go.RowKit Go.Proofs
set_option maxHeartbeats 400000
theorem own_form {base : Nat} {w : World} {v : Value} {xs : List Int} (h : OwnInts base w v xs.reverse) : ∃ A c, v = .slice A xs.length c ∧ xs.length ≤ c ∧ c ≤ 9223372036854775807 := by
  obtain ⟨A, c, e, h1, h2⟩ := h.ints.form
  rw [List.length_reverse] at e h1
  exact ⟨A, c, e, h1, h2⟩
theorem blk_pushed {w w' : World} {v u : Value} {base g : Nat} {t : TypeId} {cs : Array Value} {xs : List Int} (h : Blk w g t cs) (ho : OwnInts base w v xs) (ht : t ≠ 2) (hp : Pushed w w' v u) : Blk w' g t cs :=
  (hp.same g h.lt (fun e => blk_ne_row h ho ht e.symm)).trans h
/-- What a step comes to. -/
def StepRes (w0 w : World) (b : Nat) (m : MachD) (c' : ConfD) (mv lv rv : Value) (e : Ending) (w' : World) : Prop :=
  ∃ lv' rv', e = .returned (.bool (fitI c')) ∧ RunAt w0 w' b m c' mv lv' rv' ∧ Moved b w w' lv rv lv' rv'
set_option maxRecDepth 20000 in
set_option maxHeartbeats 4000000 in
theorem step_c (w0 w : World) (b : Nat) (m : MachD) (c : ConfD) (mv lv rv : Value) (h : RunAt w0 w b m c mv lv rv) (hl : c.l.length ≤ 200) (hn : c.r.length ≤ 200) (hm : machOk m = true) (hg : IGood m c) :
    Calls Tryz.prog 42 #[.pointer (some ⟨b, 0, none⟩)] w (StepRes w0 w b m (stepI (lookI m c) c) mv lv rv) := by
  have hR := rule_c w0 w b m c mv lv rv h (by omega) hm hg
  obtain ⟨R0, hR0⟩ : ∃ R, R = c.r.drop 1 := ⟨_, rfl⟩
  obtain ⟨L0, hL0⟩ : ∃ L, L = c.l.drop 1 := ⟨_, rfl⟩
  have hR0l : R0.length ≤ 200 := by rw [hR0]; simp; omega
  have hL0l : L0.length ≤ 200 := by rw [hL0]; simp; omega
  have HR0 := Lib.hid hR0
  have HL0 := Lib.hid hL0
  clear hR0 hL0
  generalize lookI m c = ru at *
  obtain ⟨rw_, rm, rn⟩ := ru
  simp only at hR
  go_enter Tryz.func42, Tryz.ntmps42
  go_wp2_with fail
  refine hR.mono ?_
  rintro e w1 ⟨rfl, hx1⟩
  obtain ⟨W1, hW1⟩ : ∃ W, W = w1.alloc (.cells #[.int .i64 rw_, .int .i64 rm, .int .i64 rn] 65) := ⟨_, rfl⟩
  have hxW : Ext w1 W1 := by rw [hW1]; exact Ext.alloc _ _
  have bR : Blk W1 w1.heap.size 65 #[.int .i64 rw_, .int .i64 rm, .int .i64 rn] := by rw [hW1]; exact Blk.new _ _ _ _ rfl
  have h2 := h.ext (hx1.trans hxW)
  have M2 : Moved b w W1 lv rv lv rv := Moved.ofExt (hx1.trans hxW)
  have c5 := h2.blk.cell 5
  have f5 := h2.blk.frozen 5
  simp only [List.getElem?_toArray, List.getElem?_cons_zero, List.getElem?_cons_succ] at c5
  rw [hW1] at c5 f5
  go_wp2_with fail
  rw [← hW1]
  clear hW1 c5 f5
  refine (pop_c w0.heap.size rv c.r W1 h2.r (by omega)).mono ?_
  rw [← HR0.out]
  rintro e w' ⟨⟨u, rfl, ho, hu⟩, rfl⟩
  obtain ⟨h3, M3⟩ := RunAt.setR (u := u) h2 ho (Pushed.refl W1 rv u hu)
  have hgb : w1.heap.size ≠ b := fun e => by
    have := blk_type bR (e ▸ h2.blk)
    exact absurd this (by decide)
  have c5 := h2.blk.cell 5
  have f5 := h2.blk.frozen 5
  simp only [List.getElem?_toArray, List.getElem?_cons_zero, List.getElem?_cons_succ] at c5
  have bR3 := bR.far (p := ⟨b, 5, none⟩) hgb u
  have M4 := M2.trans M3
  obtain ⟨Au, cu, eu, _, _⟩ := own_form (xs := R0) h3.r
  subst eu
  generalize hW2 : W1.setCell ⟨b, 5, none⟩ (.slice Au (R0).length cu) = W2 at *
  have HW2 := Lib.hid hW2
  have r1 := bR3.cell 1
  simp only [List.getElem?_toArray, List.getElem?_cons_zero, List.getElem?_cons_succ] at r1
  have r1' := r1
  rw [← hW2] at r1'
  clear hW2
  have hd := h3.ext (Ext.drew W2)
  have bRd := bR3.drew
  have Md := M4.trans (Moved.ofExt (Ext.drew W2))
  have x4 := hd.blk.cell 4
  have x5 := hd.blk.cell 5
  have y0 := bRd.cell 0
  simp only [List.getElem?_toArray, List.getElem?_cons_zero, List.getElem?_cons_succ] at x4 x5 y0
  have hbs : w0.heap.size ≤ W2.drew.heap.size := hd.ext0.size
  by_cases hpos : 0 < rm
  · have hdm : decide (rm > 0) = true := by simp [hpos]
    have HST : Hid (stepI ⟨rw_, rm, rn⟩ c = ⟨rn, pushL rw_ c.l, R0⟩) := by unfold Hid stepI; rw [if_pos hpos, HR0.out]
    clear hpos
    go_wp2_with fail
    rw [HW2.out]
    go_region_law
      (first
        | (go_simp; go_at_call 81; ((with_reducible refine (push_c w0.heap.size rw_ lv c.l _ hd.l hbs (by omega)).mono ?_)); rintro e w5 ⟨u5, rfl, ho5, hp5⟩; obtain ⟨h6, M6⟩ := RunAt.setL hd ho5 hp5; have bR5 := blk_pushed bRd hd.l (by decide) hp5; have bK5 := blk_pushed hd.blk hd.l (by decide) hp5; obtain ⟨A5, k5, e5, _, _⟩ := own_form ho5; subst e5; have z4 := bK5.cell 4; have zf := bK5.frozen 4))
    all_goals
      have bR6 := bR5.far (p := ⟨b, 4, none⟩) hgb (.slice A5 (pushL rw_ c.l).length k5)
      have M7 := Md.trans M6
      clear x4 x5 y0 z4 zf r1 r1'
      have hrc2 := bR6.cell 2
      simp only [List.getElem?_toArray, List.getElem?_cons_zero, List.getElem?_cons_succ] at hrc2
      have hbc3 := h6.blk.cell 3
      have hbf3 := h6.blk.frozen 3
      simp only [List.getElem?_toArray, List.getElem?_cons_zero, List.getElem?_cons_succ] at hbc3
      obtain ⟨hQ, mQ⟩ := RunAt.setQ h6 rn
      have hMV := M7.trans mQ
      have e4 := hQ.blk.cell 4
      have e5 := hQ.blk.cell 5
      simp only [List.getElem?_toArray, List.getElem?_cons_zero, List.getElem?_cons_succ] at e4 e5
      have HFI : Hid (fitI (stepI ⟨rw_, rm, rn⟩ c) = (decide ((pushL rw_ c.l).length ≤ 200) && decide ((R0).length ≤ 200))) := by unfold Hid; rw [HST.out]; rfl
      have HSQ := Lib.hid HST.out
      rw [← HSQ.out] at hQ
      generalize (pushL rw_ c.l).length = nl at *
      generalize (R0).length = nr at *
      by_cases hnl : nl ≤ 200
      · have d1 : decide ((nl : Int) ≤ 200) = true := decide_eq_true (by omega)
        have d1' : decide (nl ≤ 200) = true := decide_eq_true hnl
        by_cases hnr : nr ≤ 200
        · have d2 : decide ((nr : Int) ≤ 200) = true := decide_eq_true (by omega)
          have d2' : decide (nr ≤ 200) = true := decide_eq_true hnr
          have HB : Hid (fitI (stepI ⟨rw_, rm, rn⟩ c) = true) := by unfold Hid; rw [HFI.out, d1', d2']; rfl
          clear hnl hnr
          go_wp2
          go_ret
          refine ⟨.slice A5 nl k5, .slice Au nr cu, ?_, hQ, hMV⟩
          rw [HB.out]
          rfl
        · have d2 : decide ((nr : Int) ≤ 200) = false := decide_eq_false (by omega)
          have d2' : decide (nr ≤ 200) = false := decide_eq_false hnr
          have HB : Hid (fitI (stepI ⟨rw_, rm, rn⟩ c) = false) := by unfold Hid; rw [HFI.out, d1', d2']; rfl
          clear hnl hnr
          go_wp2
          go_ret
          refine ⟨.slice A5 nl k5, .slice Au nr cu, ?_, hQ, hMV⟩
          rw [HB.out]
          rfl
      · have d1 : decide ((nl : Int) ≤ 200) = false := decide_eq_false (by omega)
        have d1' : decide (nl ≤ 200) = false := decide_eq_false hnl
        have HB : Hid (fitI (stepI ⟨rw_, rm, rn⟩ c) = false) := by unfold Hid; rw [HFI.out, d1']; rfl
        clear hnl
        go_wp2
        go_ret
        refine ⟨.slice A5 nl k5, .slice Au nr cu, ?_, hQ, hMV⟩
        rw [HB.out]
        rfl
  · have hdm : decide (rm > 0) = false := by simp; omega
    have HST : Hid (stepI ⟨rw_, rm, rn⟩ c = ⟨rn, L0, pushL (hdD c.l) (pushL rw_ (R0))⟩) := by unfold Hid stepI; rw [if_neg hpos, HR0.out, HL0.out]
    clear hpos
    go_wp2_with fail
    rw [HW2.out]
    go_region_law
      (first
        | (go_simp; go_at_call 81; ((with_reducible refine (push_c w0.heap.size rw_ _ (R0) _ hd.r hbs (by omega)).mono ?_)); rintro e w5 ⟨u5, rfl, ho5, hp5⟩; have hL5 : OwnInts w0.heap.size w5 lv c.l.reverse := own_same hd.l (fun g hg => hp5.same g (hd.l.lt g hg).2 (fun e => hd.ap g hg e)); have bK5 := blk_pushed hd.blk hd.r (by decide) hp5; have v4 := bK5.cell 4; simp only [List.getElem?_toArray, List.getElem?_cons_zero, List.getElem?_cons_succ] at v4; have hbs5 : w0.heap.size ≤ w5.heap.size := Nat.le_trans hbs hp5.size; have hpl5 := pushL_len rw_ (R0))
        | (go_simp; go_at_call 82; ((with_reducible refine (nearest_c _ c.l _ hL5.ints (by omega)).mono ?_)); rintro e w6 ⟨rfl, rfl⟩)
        | (go_simp; go_at_call 81; ((with_reducible refine (push_c w0.heap.size (hdD c.l) _ (pushL rw_ (R0)) _ ho5 hbs5 (by omega)).mono ?_)); rintro e w7 ⟨u7, rfl, ho7, hp7⟩; have hp57 := hp5.trans hp7; obtain ⟨h6, M6⟩ := RunAt.setR hd ho7 hp57; have bR5 := blk_pushed bRd hd.r (by decide) hp57; have bK7 := blk_pushed hd.blk hd.r (by decide) hp57; obtain ⟨A7, k7, e7, _, _⟩ := own_form ho7; subst e7; have z4 := bK7.cell 5; have zf := bK7.frozen 5))
    all_goals
      have bR6 := bR5.far (p := ⟨b, 5, none⟩) hgb (.slice A7 (pushL (hdD c.l) (pushL rw_ (R0))).length k7)
      have M7 := Md.trans M6
      have q4 := h6.blk.cell 4
      have q4' := bK7.cell 4
      simp only [List.getElem?_toArray, List.getElem?_cons_zero, List.getElem?_cons_succ] at q4 q4'
      clear x4 x5 y0 r1 r1' v4
      generalize hW8 : w7.setCell ⟨b, 5, none⟩ (.slice A7 (pushL (hdD c.l) (pushL rw_ (R0))).length k7) = W8 at *
      have HW8 := Lib.hid hW8
      clear hW8
      go_wp2_with fail
      clear q4 q4' z4 zf
      refine (pop_c w0.heap.size lv c.l W8 h6.l (by omega)).mono ?_
      rw [← HL0.out]
      rintro e w' ⟨⟨u8, rfl, ho8, hu8⟩, rfl⟩
      obtain ⟨h9, M9⟩ := RunAt.setL (u := u8) h6 ho8 (Pushed.refl W8 lv u8 hu8)
      have z4 := h6.blk.cell 4
      have zf := h6.blk.frozen 4
      simp only [List.getElem?_toArray, List.getElem?_cons_zero, List.getElem?_cons_succ] at z4
      obtain ⟨A8, k8, e8, _, _⟩ := own_form (xs := L0) ho8
      subst e8
      have bR9 := bR6.far (p := ⟨b, 4, none⟩) hgb (.slice A8 (L0).length k8)
      have M10 := M7.trans M9
      have hrc2 := bR9.cell 2
      simp only [List.getElem?_toArray, List.getElem?_cons_zero, List.getElem?_cons_succ] at hrc2
      have hbc3 := h9.blk.cell 3
      have hbf3 := h9.blk.frozen 3
      simp only [List.getElem?_toArray, List.getElem?_cons_zero, List.getElem?_cons_succ] at hbc3
      obtain ⟨hQ, mQ⟩ := RunAt.setQ h9 rn
      have hMV := M10.trans mQ
      have e4 := hQ.blk.cell 4
      have e5 := hQ.blk.cell 5
      simp only [List.getElem?_toArray, List.getElem?_cons_zero, List.getElem?_cons_succ] at e4 e5
      have HFI : Hid (fitI (stepI ⟨rw_, rm, rn⟩ c) = (decide ((L0).length ≤ 200) && decide ((pushL (hdD c.l) (pushL rw_ (R0))).length ≤ 200))) := by unfold Hid; rw [HST.out]; rfl
      have HSQ := Lib.hid HST.out
      rw [← HSQ.out] at hQ
      generalize (L0).length = nl at *
      generalize (pushL (hdD c.l) (pushL rw_ (R0))).length = nr at *
      by_cases hnl : nl ≤ 200
      · have d1 : decide ((nl : Int) ≤ 200) = true := decide_eq_true (by omega)
        have d1' : decide (nl ≤ 200) = true := decide_eq_true hnl
        by_cases hnr : nr ≤ 200
        · have d2 : decide ((nr : Int) ≤ 200) = true := decide_eq_true (by omega)
          have d2' : decide (nr ≤ 200) = true := decide_eq_true hnr
          have HB : Hid (fitI (stepI ⟨rw_, rm, rn⟩ c) = true) := by unfold Hid; rw [HFI.out, d1', d2']; rfl
          clear hnl hnr
          go_wp2
          go_ret
          refine ⟨.slice A8 nl k8, .slice A7 nr k7, ?_, hQ, hMV⟩
          rw [HB.out]
          rfl
        · have d2 : decide ((nr : Int) ≤ 200) = false := decide_eq_false (by omega)
          have d2' : decide (nr ≤ 200) = false := decide_eq_false hnr
          have HB : Hid (fitI (stepI ⟨rw_, rm, rn⟩ c) = false) := by unfold Hid; rw [HFI.out, d1', d2']; rfl
          clear hnl hnr
          go_wp2
          go_ret
          refine ⟨.slice A8 nl k8, .slice A7 nr k7, ?_, hQ, hMV⟩
          rw [HB.out]
          rfl
      · have d1 : decide ((nl : Int) ≤ 200) = false := decide_eq_false (by omega)
        have d1' : decide (nl ≤ 200) = false := decide_eq_false hnl
        have HB : Hid (fitI (stepI ⟨rw_, rm, rn⟩ c) = false) := by unfold Hid; rw [HFI.out, d1']; rfl
        clear hnl
        go_wp2
        go_ret
        refine ⟨.slice A8 nl k8, .slice A7 nr k7, ?_, hQ, hMV⟩
        rw [HB.out]
        rfl
end Go.Proofs.YtapjofbjedpmgaaGreat
end
section
set_option linter.unusedSimpArgs false
set_option linter.unusedVariables false
namespace Go.Proofs.YtapjofbjedpmgaaGreat
open Go Go.RowKit Go.Proofs
set_option maxHeartbeats 400000
/-- A configuration that has been made. -/
def CfgRes (w : World) (c : ConfD) (e : Ending) (w' : World) : Prop :=
  ∃ lv rv, e = .returned (.agg #[.int .i64 c.q, lv, rv]) ∧ OwnInts w.heap.size w' lv c.l ∧ OwnInts w.heap.size w' rv c.r ∧ (∀ g, lv.ownBlock = some g → rv.ownBlock ≠ some g) ∧ Ext w w'
set_option maxRecDepth 20000 in
set_option maxHeartbeats 1000000 in
theorem config_c (w0 w : World) (b : Nat) (m : MachD) (c : ConfD) (mv lv rv : Value) (h : RunAt w0 w b m c mv lv rv) (hl : c.l.length ≤ 1000) (hn : c.r.length ≤ 1000) :
    Calls Tryz.prog 43 #[.pointer (some ⟨b, 0, none⟩)] w (CfgRes w c) := by
  obtain ⟨W, hW⟩ : ∃ W, W = w.alloc (.cells #[.int .i64 0, .slice none 0 0, .slice none 0 0] 29) := ⟨_, rfl⟩
  have hXW : Ext w W := by rw [hW]; exact Ext.alloc _ _
  have bO : Blk W w.heap.size 29 #[.int .i64 0, .slice none 0 0, .slice none 0 0] := by rw [hW]; exact Blk.new _ _ _ _ rfl
  have h1 := h.ext hXW
  have hd := h1.ext (Ext.drew W)
  have x3 := h.blk.cell 3
  have x4 := h.blk.cell 4
  have x5 := h.blk.cell 5
  have c3 := h1.blk.cell 3
  have c4 := h1.blk.cell 4
  have c5 := h1.blk.cell 5
  simp only [List.getElem?_toArray, List.getElem?_cons_zero, List.getElem?_cons_succ] at c3 c4 c5 x3 x4 x5
  have e1 : c.l.reverse.reverse = c.l := List.reverse_reverse _
  have e2 : c.r.reverse.reverse = c.r := List.reverse_reverse _
  have RL := fun w h => reversed_c lv c.l.reverse w h h1.l.flat (by simp; omega)
  have RR := fun w h => reversed_c rv c.r.reverse w h h1.r.flat (by simp; omega)
  rw [e1] at RL
  rw [e2] at RR
  have il := hd.l.ints
  have ir := hd.r.ints
  clear e1 e2
  go_enter Tryz.func43, Tryz.ntmps43
  go_wp2_with fail
  rw [← hW]
  clear hW
  go_region_held3 (fun w' => w'.cell? ⟨b, 3, none⟩ = some (.int .i64 c.q) ∧ w'.cell? ⟨b, 4, none⟩ = some lv ∧ w'.cell? ⟨b, 5, none⟩ = some rv)
    (first | go_keep | exact ⟨(hS _ _ _).cell x3, (hS _ _ _).cell x4, (hS _ _ _).cell x5⟩ | exact ⟨hE6.cell c3, hE6.cell c4, hE6.cell c5⟩ | exact ⟨hE5.cell c3, hE5.cell c4, hE5.cell c5⟩)
    (first
      | (go_at_call 78; ((with_reducible refine (RL _ il).mono ?_)); rintro e w5 ⟨u5, rfl, ho5, hx5⟩; have hE5 := (Ext.drew W).trans hx5; have ir5 := ir.ext hx5; obtain ⟨A5, k5, rfl, _, _⟩ := ho5.ints.form)
      | (go_at_call 78; ((with_reducible refine (RR _ ir5).mono ?_)); rintro e w6 ⟨u6, rfl, ho6, hx6⟩; have hE6 := hE5.trans hx6; obtain ⟨A6, k6, rfl, _, _⟩ := ho6.ints.form; have bO6 := bO.ext hE6; have z0 := bO6.cell; have z1 := bO6.frozen; have hS := fun x y z => (((hXW.trans hE6).setCell (p := ⟨w.heap.size, 0, none⟩) (Nat.le_refl _) x).setCell (p := ⟨w.heap.size, 1, none⟩) (Nat.le_refl _) y).setCell (p := ⟨w.heap.size, 2, none⟩) (Nat.le_refl _) z))
  all_goals
    have hs1 := hXW.size
    have hs2 := hx5.size
    have hwd : W.drew.heap.size = W.heap.size := rfl
    have hws : w.heap.size < W.heap.size := bO.lt
    have o5 := ho5.ext hx6
    have f5 : ∀ g, (Value.slice A5 c.l.length k5).ownBlock = some g → g ≠ w.heap.size := fun g hg => by have := (o5.lt g hg).1; omega
    have f6 : ∀ g, (Value.slice A6 c.r.length k6).ownBlock = some g → g ≠ w.heap.size := fun g hg => by have := (ho6.lt g hg).1; omega
    have hap : ∀ g, (Value.slice A5 c.l.length k5).ownBlock = some g → (Value.slice A6 c.r.length k6).ownBlock ≠ some g := fun g hg hk => by
      have a1 := (ho5.lt g hg).2
      have a2 := (ho6.lt g hk).1
      omega
    clear hS x3 x4 x5 c3 c4 c5
    go_wp2
    refine bodyPost_ret (v := .agg #[.int .i64 c.q, .slice A5 c.l.length k5, .slice A6 c.r.length k6]) (by simp [results, Tryz.results43, go_sem, z0]) rfl ⟨_, _, rfl, ?_, ?_, hap, ?_⟩
    · exact ownsRow_base (ownsRow_far (ownsRow_far (ownsRow_far o5 f5 _) f5 _) f5 _) (by omega)
    · exact ownsRow_base (ownsRow_far (ownsRow_far (ownsRow_far ho6 f6 _) f6 _) f6 _) (by omega)
    · exact (((hXW.trans hE6).setCell (p := ⟨w.heap.size, 0, none⟩) (Nat.le_refl _) _).setCell (p := ⟨w.heap.size, 1, none⟩) (Nat.le_refl _) _).setCell (p := ⟨w.heap.size, 2, none⟩) (Nat.le_refl _) _
/-- A runner that has been made. -/
def MadeRun (w : World) (m : MachD) (c : ConfD) (mv : Value) (e : Ending) (w' : World) : Prop :=
  ∃ b lv rv, e = .returned (.pointer (some ⟨b, 0, none⟩)) ∧ RunAt w w' b m c mv lv rv
set_option maxRecDepth 20000 in
set_option maxHeartbeats 1000000 in
theorem runnerOf_c (w : World) (m : MachD) (c : ConfD) (mv lv rv : Value) (hm : Rules w mv m.rules) (h1 : Ints w lv c.l) (h2 : Ints w rv c.r) (f1 : Flat lv) (f2 : Flat rv) (hl : c.l.length ≤ 1000) (hn : c.r.length ≤ 1000) :
    Calls Tryz.prog 40 #[.agg #[.int .i64 m.sy, .int .i64 m.st, mv], .agg #[.int .i64 c.q, lv, rv]] w (MadeRun w m c mv) := by
  obtain ⟨Am, cm, rfl, _, _⟩ := hm.form
  obtain ⟨Al, cl, rfl, _, _⟩ := h1.form
  obtain ⟨Ar, cr, rfl, _, _⟩ := h2.form
  obtain ⟨W, hW⟩ : ∃ W, W = (w.alloc (.cells #[.int .i64 m.sy, .int .i64 m.st, .slice Am m.rules.length cm] 26)).alloc (.cells #[.int .i64 c.q, .slice Al c.l.length cl, .slice Ar c.r.length cr] 29) := ⟨_, rfl⟩
  have hXW : Ext w W := by rw [hW]; exact (Ext.alloc _ _).trans (Ext.alloc _ _)
  have bM : Blk W w.heap.size 26 #[.int .i64 m.sy, .int .i64 m.st, .slice Am m.rules.length cm] := by rw [hW]; exact (Blk.new _ _ _ _ rfl).alloc _
  have bC : Blk W (w.heap.size + 1) 29 #[.int .i64 c.q, .slice Al c.l.length cl, .slice Ar c.r.length cr] := by rw [hW]; exact Blk.new _ _ _ _ (by simp)
  have m0 := bM.cell 0
  have m1 := bM.cell 1
  have m2 := bM.cell 2
  have c0 := bC.cell 0
  have c1 := bC.cell 1
  have c2 := bC.cell 2
  simp only [List.getElem?_toArray, List.getElem?_cons_zero, List.getElem?_cons_succ] at m0 m1 m2 c0 c1 c2
  have il := (h1.ext hXW).ext (Ext.drew W)
  have ir := (h2.ext hXW).ext (Ext.drew W)
  have RL := fun w h => reversed_c (.slice Al c.l.length cl) c.l w h f1 (by omega)
  have RR := fun w h => reversed_c (.slice Ar c.r.length cr) c.r w h f2 (by omega)
  have hll : c.l.reverse.length = c.l.length := List.length_reverse
  have hrl : c.r.reverse.length = c.r.length := List.length_reverse
  obtain ⟨L, hL⟩ : ∃ L, L = c.l.reverse := ⟨_, rfl⟩
  obtain ⟨R, hR⟩ : ∃ R, R = c.r.reverse := ⟨_, rfl⟩
  rw [← hL] at RL hll
  rw [← hR] at RR hrl
  have HL := Lib.hid hL
  have HR := Lib.hid hR
  clear hL hR hll hrl
  go_enter Tryz.func40, Tryz.ntmps40
  go_wp2_with fail
  rw [← hW]
  clear hW
  go_region_held3 (fun w' => w'.cell? ⟨w.heap.size, 0, none⟩ = some (.int .i64 m.sy) ∧ w'.cell? ⟨w.heap.size, 1, none⟩ = some (.int .i64 m.st) ∧ w'.cell? ⟨w.heap.size, 2, none⟩ = some (.slice Am m.rules.length cm) ∧ w'.cell? ⟨w.heap.size + 1, 0, none⟩ = some (.int .i64 c.q) ∧ w'.cell? ⟨w.heap.size + 1, 1, none⟩ = some (.slice Al c.l.length cl) ∧ w'.cell? ⟨w.heap.size + 1, 2, none⟩ = some (.slice Ar c.r.length cr))
    (first | go_keep | exact ⟨(hD _).cell m0, (hD _).cell m1, (hD _).cell m2, (hD _).cell c0, (hD _).cell c1, (hD _).cell c2⟩ | exact ⟨hE6.cell m0, hE6.cell m1, hE6.cell m2, hE6.cell c0, hE6.cell c1, hE6.cell c2⟩ | exact ⟨hE5.cell m0, hE5.cell m1, hE5.cell m2, hE5.cell c0, hE5.cell c1, hE5.cell c2⟩)
    (first
      | (go_at_call 78; ((with_reducible refine (RL _ il).mono ?_)); rintro e w5 ⟨u5, rfl, ho5, hx5⟩; have hE5 := (Ext.drew W).trans hx5; have ir5 := ir.ext hx5; obtain ⟨A5, k5, rfl, _, _⟩ := ho5.ints.form)
      | (go_at_call 78; ((with_reducible refine (RR _ ir5).mono ?_)); rintro e w6 ⟨u6, rfl, ho6, hx6⟩; have hE6 := hE5.trans hx6; obtain ⟨A6, k6, rfl, _, _⟩ := ho6.ints.form; have hD := fun o => hE6.trans (Ext.alloc w6 o)))
  all_goals
    have hs1 := hXW.size
    have hs2 := hx5.size
    have hwd : W.drew.heap.size = W.heap.size := rfl
    have hap : ∀ g, (Value.slice A5 L.length k5).ownBlock = some g → (Value.slice A6 R.length k6).ownBlock ≠ some g := fun g hg hk => by
      have a1 := (ho5.lt g hg).2
      have a2 := (ho6.lt g hk).1
      omega
    have hs6 : w.heap.size ≤ w6.heap.size := (hXW.trans hE6).size
    clear hD m0 m1 m2 c0 c1 c2
    go_wp2
    go_ret
    have hXn : Ext w (w6.alloc (.cells #[.int .i64 m.sy, .int .i64 m.st, .slice Am m.rules.length cm, .int .i64 c.q, .slice A5 L.length k5, .slice A6 R.length k6] 119)) := (hXW.trans hE6).trans (Ext.alloc _ _)
    refine ⟨w6.heap.size, .slice A5 L.length k5, .slice A6 R.length k6, rfl, ⟨Blk.new _ _ _ _ rfl, hm, hXn, ?_, ?_, hap, hs6⟩⟩
    · rw [← HL.out]; exact (ownsRow_base (ho5.ext hx6) (by omega)).alloc _
    · rw [← HR.out]; exact (ownsRow_base ho6 (by omega)).alloc _
end Go.Proofs.YtapjofbjedpmgaaGreat
end
