/- Contract of the program's joined lists, of two lists.
Contract of the program's writing of one symbol on one tape.
Contract of the program's step of a configuration with several tapes. -/
import Derived.Test.YtgeckhjkahnonaaGreatDoorO18
import Derived.Test.YtgeckhjkahnonaaGreatDoorO17
import Derived.Test.YtgeckhjkahnonaaGreatDoorO05
import Derived.Deep.CutBlock
import Derived.Deep.DeepCutAuto
section
set_option linter.unusedSimpArgs false
set_option linter.unusedVariables false
namespace Go.Proofs.YtgeckhjkahnonaaGreatDoor
open Go Go.RowKit Go.Proofs
set_option maxHeartbeats 400000
theorem row_blk {w : World} {g n : Nat} {t : TypeId} {cs : List Value} (h : Blk w g t cs.toArray) (hl : cs.length = n) (hn : n ≤ 1000000) : Row w 1 (.slice (some ⟨g, 0, none⟩) n n) n cs := by
  subst hl
  refine ⟨_, _, rfl, Nat.le_refl _, by omega, by simp, fun _ => ⟨g, 0, rfl, fun j hj => ?_⟩⟩
  rw [Nat.zero_add, h.cell j]
  simp
theorem joinedA_c (A B : Option Addr) (ca cb : Nat) (xs ys : List Int) (w : World) (h1 : Ints w (.slice A xs.length ca) xs) (h2 : Ints w (.slice B ys.length cb) ys) (f1 : Flat (.slice A xs.length ca)) (f2 : Flat (.slice B ys.length cb)) (hn : xs.length + ys.length ≤ 1048576) :
    Calls Tryz.prog 75 #[.slice (some ⟨w.heap.size, 0, none⟩) 2 2] (w.alloc (.cells #[.slice A xs.length ca, .slice B ys.length cb] 34)) fun e w' => ∃ u, e = .returned u ∧ OwnInts w.heap.size w' u (xs ++ ys) ∧ Ext (w.alloc (.cells #[.slice A xs.length ca, .slice B ys.length cb] 34)) w' := by
  have hx := Ext.alloc w (.cells #[.slice A xs.length ca, .slice B ys.length cb] 34)
  have hb : Blk (w.alloc (.cells #[.slice A xs.length ca, .slice B ys.length cb] 34)) w.heap.size 34 ([.slice A xs.length ca, .slice B ys.length cb] : List Value).toArray := Blk.new _ _ _ _ rfl
  refine (joined_c _ [xs, ys] [.slice A xs.length ca, .slice B ys.length cb] _ (row_blk hb rfl (by simp)) ?_ (by simp) (by simp [tot]; omega)).mono ?_
  · intro i hi
    match i, hi with
    | 0, _ => exact ⟨_, rfl, h1.ext hx, f1⟩
    | 1, _ => exact ⟨_, rfl, h2.ext hx, f2⟩
  · rintro e w' ⟨u, rfl, ho, he⟩
    have e : [xs, ys].flatten = xs ++ ys := by simp
    rw [e] at ho
    exact ⟨u, rfl, ownsRow_base ho (by simp), he⟩
end Go.Proofs.YtgeckhjkahnonaaGreatDoor
end
section
set_option linter.unusedVariables false
set_option linter.unusedSimpArgs false
namespace Go.Proofs.YtgeckhjkahnonaaGreatDoor
open Go Go.RowKit Go.Proofs Go.Maps
set_option maxHeartbeats 400000
theorem Side.flat {base : Nat} {w : World} {v : Value} {xs : List Int} (h : Side base w v xs) : Flat v := by
  rcases h with ⟨_, rfl | ⟨b, off, c, rfl, _⟩⟩ | ⟨g, off, c, cs, rfl, _⟩
  · exact .inl rfl
  · exact .inr ⟨_, _, _, _, rfl⟩
  · exact .inr ⟨_, _, _, _, rfl⟩
theorem Side.form {base : Nat} {w : World} {v : Value} {xs : List Int} (h : Side base w v xs) : ∃ A c, v = .slice A xs.length c ∧ xs.length ≤ c ∧ c ≤ 9223372036854775807 := h.ints.form
theorem Side.neT {base : Nat} {w : World} {v : Value} {xs : List Int} (h : Side base w v xs) {b : Nat} {t : TypeId} {cs : Array Value} (hb : Blk w b t cs) (ht : 2 ≠ t) : v.ownS ≠ some b := by
  intro e
  rcases h with ⟨_, rfl | ⟨b', off, c, rfl, _⟩⟩ | ⟨g, off, c, cs', rfl, _, _, _, hg, _⟩
  · simp [Value.ownS] at e
  · rw [ownS_zero] at e
    cases e
  · exact blk_ne hg hb ht (ownS_some e).1
theorem Side.ne {base : Nat} {w : World} {v : Value} {xs : List Int} (h : Side base w v xs) {b : Nat} {cs : Array Value} (hb : Blk w b 91 cs) : v.ownS ≠ some b := h.neT hb (by decide)
/-- A side that is not empty lies in its own block. -/
theorem Side.at {base : Nat} {w : World} {v : Value} {xs : List Int} (h : Side base w v xs) (h1 : 1 ≤ xs.length) : ∃ g off c cs, v = .slice (some ⟨g, off, none⟩) xs.length c ∧ xs.length ≤ c ∧ c ≤ 9223372036854775807 ∧ base ≤ g ∧ Blk w g 2 cs ∧ ∀ j, (h : j < xs.length) → cs[off + j]? = some (.int .i64 xs[j]) := by
  rcases h with ⟨rfl, _⟩ | h
  · simp at h1
  · exact h
theorem Side.nil {base : Nat} {w : World} {v : Value} {xs : List Int} (h : Side base w v xs) (h0 : xs.length = 0) : (v = .slice none 0 0 ∨ ∃ b off c, v = .slice (some ⟨b, off, none⟩) 0 c ∧ c ≤ 9223372036854775807) := by
  rcases h with ⟨_, h⟩ | ⟨g, off, c, cs, rfl, _, h2, _⟩
  · exact h
  · rw [h0]
    exact .inr ⟨_, _, _, rfl, h2⟩
theorem Side.take {base : Nat} {w : World} {A : Option Addr} {n c : Nat} {xs : List Int} (h : Side base w (.slice A n c) xs) (k : Nat) (hk : k ≤ xs.length) : Side base w (.slice A k c) (xs.take k) := by
  have hl : (xs.take k).length = k := by simp; omega
  rcases h with ⟨rfl, h⟩ | ⟨g, off, c', cs, e, h1, h2, hb, hg, hc⟩
  · simp at hk
    subst hk
    refine .inl ⟨rfl, ?_⟩
    rcases h with e | ⟨b, off, c', e, h⟩
    · injection e with e1 e2 e3
      subst e1 e3
      exact .inl rfl
    · injection e with e1 e2 e3
      subst e1 e3
      exact .inr ⟨_, _, _, rfl, h⟩
  · injection e with e1 e2 e3
    subst e1 e3
    refine .inr ⟨g, off, c, cs, by rw [hl], by omega, h2, hb, hg, fun j hj => ?_⟩
    rw [hl] at hj
    rw [hc j (by omega)]
    simp
theorem Side.drop1 {base : Nat} {w : World} {g off n c : Nat} {xs : List Int} (h : Side base w (.slice (some ⟨g, off, none⟩) n c) xs) (h1 : 1 ≤ xs.length) (hc : c ≠ 1) : Side base w (.slice (some ⟨g, off + 1, none⟩) (n - 1) (c - 1)) (xs.drop 1) := by
  obtain ⟨g', off', c', cs, e, h1', h2, hb, hg, hcc⟩ := h.at h1
  injection e with e1 e2 e3
  injection e1 with e1
  injection e1 with e1 e4
  subst e1 e2 e3 e4
  refine .inr ⟨g, off + 1, c - 1, cs, by simp, by simp; omega, by omega, hb, hg, fun j hj => ?_⟩
  simp at hj
  rw [Nat.add_right_comm, Nat.add_assoc, hcc (j + 1) (by omega)]
  simp
theorem Side.drop1' {base : Nat} {w : World} {g off n : Nat} {xs : List Int} (h : Side base w (.slice (some ⟨g, off, none⟩) n 1) xs) (h1 : 1 ≤ xs.length) : Side base w (.slice (some ⟨g, off, none⟩) 0 0) (xs.drop 1) := by
  obtain ⟨g', off', c', cs, e, h1', h2, hb, hg, hcc⟩ := h.at h1
  injection e with e1 e2 e3
  subst e3
  exact .inl ⟨List.drop_eq_nil_of_le h1', .inr ⟨_, _, _, rfl, by omega⟩⟩
theorem Side.poke {base : Nat} {w : World} {g off n c : Nat} {xs : List Int} (h : Side base w (.slice (some ⟨g, off, none⟩) n c) xs) (h1 : 1 ≤ xs.length) (s : Int) : Side base (w.setCell ⟨g, off, none⟩ (.int .i64 s)) (.slice (some ⟨g, off, none⟩) n c) (s :: xs.drop 1) := by
  obtain ⟨g', off', c', cs, e, h1', h2, hb, hg, hcc⟩ := h.at h1
  injection e with e1 e2 e3
  injection e1 with e1
  injection e1 with e1 e4
  subst e1 e2 e3 e4
  have hl : (s :: xs.drop 1).length = xs.length := by simp; omega
  refine .inr ⟨g, off, c, _, by rw [hl], by omega, h2, hb, hg.set_ off _, fun j hj => ?_⟩
  rw [hl] at hj
  have hin : off < cs.size := by
    have := hcc 0 (by omega)
    simp at this
    obtain ⟨q, _⟩ := Array.getElem?_eq_some_iff.1 this
    exact q
  rw [Array.getElem?_setIfInBounds]
  match j, hj with
  | 0, _ => simp [hin]
  | j + 1, hj =>
    rw [if_neg (by omega), hcc (j + 1) hj]
    simp [Nat.add_comm]
theorem ownS_own {v : Value} {g : Nat} (h : v.ownS = some g) : v.ownBlock = some g := by
  unfold Value.ownS at h
  split at h
  · exact h
  · cases h
theorem _root_.Go.World.ownsRow.ltS {base : Nat} {w : World} {e : TypeId} {size : Nat} {v : Value} {n : Nat} {xs : List Value} (h : w.ownsRow base e size v n xs) (g : Nat) (hg : v.ownS = some g) : base ≤ g ∧ g < w.heap.size := h.lt g (ownS_own hg)
theorem ints_one_new (w : World) (x : Int) : Ints (w.alloc (.cells #[.int .i64 x] 2)) (.slice (some ⟨w.heap.size, 0, none⟩) [x].length 1) [x] := by
  refine ⟨_, 1, rfl, by simp, by omega, by simp, fun _ => ⟨w.heap.size, 0, rfl, fun j hj => ?_⟩⟩
  have hb : Blk (w.alloc (.cells #[.int .i64 x] 2)) w.heap.size 2 #[.int .i64 x] := Blk.new _ _ _ _ rfl
  have : j = 0 := by simpa using hj
  subst this
  rw [hb.cell]
  rfl
/-- A tape among the cells of a block, its sides in blocks of their own and apart. -/
structure TapeAt (base : Nat) (w : World) (b o : Nat) (cs : Array Value) (lv rv : Value) (t : TapeD) : Prop where
  blk : Blk w b 91 cs
  el : cs[o]? = some lv
  er : cs[o + 1]? = some rv
  l : Side base w lv t.l
  r : Side base w rv t.r
  ap : ∀ g, lv.ownS = some g → rv.ownS ≠ some g
/-- Only the tape's cells, its right side's block, and new ones, are touched. -/
structure Wrote (b : Nat) (w w' : World) (lv rv lv' rv' : Value) : Prop where
  os : w'.os = w.os
  tape : w'.tape = w.tape
  output : w'.output = w.output
  size : w.heap.size ≤ w'.heap.size
  same : ∀ k, k < w.heap.size → k ≠ b → rv.ownS ≠ some k → w'.heap[k]? = w.heap[k]?
  newl : ∀ g, lv'.ownS = some g → lv.ownS = some g ∨ w.heap.size ≤ g
  newr : ∀ g, rv'.ownS = some g → rv.ownS = some g ∨ w.heap.size ≤ g
/-- What a piece of the writing has made of a tape. -/
structure Wr (base b o : Nat) (w0 : World) (cs0 : Array Value) (lv0 rv0 : Value) (w : World) (cs : Array Value) (lv rv : Value) (t : TapeD) : Prop where
  at_ : TapeAt base w b o cs lv rv t
  sz : cs.size = cs0.size
  oth : ∀ i, i ≠ o → i ≠ o + 1 → cs[i]? = cs0[i]?
  mv : Wrote b w0 w lv0 rv0 lv rv
  rlt : ∀ g, rv0.ownS = some g → g < w0.heap.size
section
variable {base b o : Nat} {w0 w w' : World} {cs0 cs : Array Value} {lv0 rv0 lv rv u : Value} {t : TapeD}
theorem Wr.refl (h : TapeAt base w b o cs lv rv t) : Wr base b o w cs lv rv w cs lv rv t :=
  ⟨h, rfl, fun _ _ _ => rfl, ⟨rfl, rfl, rfl, Nat.le_refl _, fun _ _ _ _ => rfl, fun g hg => .inl hg, fun g hg => .inl hg⟩, fun g hg => (h.r.lt g hg).2⟩
theorem Wr.ext (h : Wr base b o w0 cs0 lv0 rv0 w cs lv rv t) (he : Ext w w') : Wr base b o w0 cs0 lv0 rv0 w' cs lv rv t := by
  have hm := h.mv
  have ha := h.at_
  exact ⟨⟨ha.blk.ext he, ha.el, ha.er, ha.l.ext he, ha.r.ext he, ha.ap⟩, h.sz, h.oth,
    ⟨(Below.os he).trans hm.os, (Below.tape he).trans hm.tape, (Below.output he).trans hm.output, Nat.le_trans hm.size he.size,
      fun k hk hb hr => (Below.block he k (by have := hm.size; omega)).trans (hm.same k hk hb hr), hm.newl, hm.newr⟩, h.rlt⟩
theorem Wr.setR (h : Wr base b o w0 cs0 lv0 rv0 w cs lv rv t) {w1 : World} (he : Ext w w1) {r' : List Int} (hu : Side base w1 u r') (hn : ∀ g, u.ownS = some g → rv.ownS = some g ∨ w.heap.size ≤ g) :
    Wr base b o w0 cs0 lv0 rv0 (w1.setCell ⟨b, o + 1, none⟩ u) (cs.setIfInBounds (o + 1) u) lv u ⟨t.l, r'⟩ := by
  have h1 := h.ext he
  have ha := h1.at_
  have hm := h1.mv
  have hgs := grownBy_setCell w1 ⟨b, o + 1, none⟩ u
  have hin : o + 1 < cs.size := (Array.getElem?_eq_some_iff.1 ha.er).1
  refine ⟨⟨ha.blk.set_ _ _, ?_, ?_, ha.l.far (ha.l.ne ha.blk) u, hu.far (hu.ne ha.blk) u, fun g hg hk => ?_⟩, by simp [h.sz], fun i hi1 hi2 => ?_, ⟨hgs.os.trans hm.os, hgs.tape.trans hm.tape, hgs.output.trans hm.output, Nat.le_trans hm.size hgs.size, fun k hk hb hr => ?_, hm.newl, fun g hg => ?_⟩, h.rlt⟩
  · rw [Array.getElem?_setIfInBounds_ne (by omega)]; exact ha.el
  · simp [hin]
  · rcases hn g hk with e | e
    · exact h.at_.ap g hg e
    · have := (h.at_.l.lt g hg).2; omega
  · rw [Array.getElem?_setIfInBounds_ne (by omega)]; exact h.oth i hi1 hi2
  · exact (Below.heap_setCell w1 _ u k hb).trans (hm.same k hk hb hr)
  · rcases hn g hg with e | e
    · exact hm.newr g e
    · exact .inr (by have := h.mv.size; omega)
theorem Wr.setL (h : Wr base b o w0 cs0 lv0 rv0 w cs lv rv t) {w1 : World} (he : Ext w w1) {l' : List Int} (hu : Side base w1 u l') (hn : ∀ g, u.ownS = some g → lv.ownS = some g ∨ w.heap.size ≤ g) :
    Wr base b o w0 cs0 lv0 rv0 (w1.setCell ⟨b, o, none⟩ u) (cs.setIfInBounds o u) u rv ⟨l', t.r⟩ := by
  have h1 := h.ext he
  have ha := h1.at_
  have hm := h1.mv
  have hgs := grownBy_setCell w1 ⟨b, o, none⟩ u
  have hin : o < cs.size := (Array.getElem?_eq_some_iff.1 ha.el).1
  refine ⟨⟨ha.blk.set_ _ _, ?_, ?_, hu.far (hu.ne ha.blk) u, ha.r.far (ha.r.ne ha.blk) u, fun g hg hk => ?_⟩, by simp [h.sz], fun i hi1 hi2 => ?_, ⟨hgs.os.trans hm.os, hgs.tape.trans hm.tape, hgs.output.trans hm.output, Nat.le_trans hm.size hgs.size, fun k hk hb hr => ?_, fun g hg => ?_, hm.newr⟩, h.rlt⟩
  · simp [hin]
  · rw [Array.getElem?_setIfInBounds_ne (by omega)]; exact ha.er
  · rcases hn g hg with e | e
    · exact h.at_.ap g e hk
    · have := (h.at_.r.lt g hk).2; omega
  · rw [Array.getElem?_setIfInBounds_ne (by omega)]; exact h.oth i hi1 hi2
  · exact (Below.heap_setCell w1 _ u k hb).trans (hm.same k hk hb hr)
  · rcases hn g hg with e | e
    · exact hm.newl g e
    · exact .inr (by have := h.mv.size; omega)
theorem Wr.poke {g off n c : Nat} (h : Wr base b o w0 cs0 lv0 rv0 w cs lv (.slice (some ⟨g, off, none⟩) n c) t) (h1 : 1 ≤ t.r.length) (s : Int) :
    Wr base b o w0 cs0 lv0 rv0 (w.setCell ⟨g, off, none⟩ (.int .i64 s)) cs lv (.slice (some ⟨g, off, none⟩) n c) ⟨t.l, s :: t.r.drop 1⟩ := by
  have ha := h.at_
  have hm := h.mv
  have hgs := grownBy_setCell w ⟨g, off, none⟩ (.int .i64 s)
  have hown : (Value.slice (some ⟨g, off, none⟩) n c).ownS = some g := by
    obtain ⟨_, _, _, _, e, _⟩ := ha.r.at h1
    injection e with _ e2 _
    exact ownS_pos (by omega)
  have hgb : b ≠ g := fun e => ha.r.ne ha.blk (by rw [e]; exact hown)
  refine ⟨⟨ha.blk.far hgb _, ha.el, ha.er, ha.l.far (fun e => ha.ap g e hown) _, ha.r.poke h1 s, ha.ap⟩, h.sz, h.oth, ⟨hgs.os.trans hm.os, hgs.tape.trans hm.tape, hgs.output.trans hm.output, Nat.le_trans hm.size hgs.size, fun k hk hb hr => ?_, hm.newl, hm.newr⟩, h.rlt⟩
  have hkg : k ≠ g := fun e => by
    subst e
    rcases hm.newr k hown with e | e
    · exact hr e
    · omega
  exact (Below.heap_setCell w _ _ k hkg).trans (hm.same k hk hb hr)
end
set_option maxRecDepth 20000 in
set_option maxHeartbeats 4000000 in
theorem write_c (base b o : Nat) (w : World) (cs : Array Value) (lv rv : Value) (t : TapeD) (s mv : Int) (h : TapeAt base w b o cs lv rv t) (hb : base ≤ w.heap.size) (hl : t.l.length ≤ 1000) (hr : t.r.length ≤ 1000) :
    Calls Tryz.prog 59 #[.pointer (some ⟨b, o, none⟩), .int .i64 s, .int .i64 mv] w fun e w' => e = .returned (.tuple #[]) ∧ ∃ cs' lv' rv', Wr base b o w cs lv rv w' cs' lv' rv' (writeT t s mv) := by
  have H0 := Wr.refl h
  have e0 : w.cell? ⟨b, o, none⟩ = some lv := (h.blk.cell o).trans h.el
  have e1 : w.cell? ⟨b, o + 1, none⟩ = some rv := (h.blk.cell (o + 1)).trans h.er
  have f1 := h.blk.frozen (o + 1)
  have hblt := h.blk.lt
  obtain ⟨A, c, rfl, hc1, hc2⟩ := h.r.form
  go_enter Tryz.func59, Tryz.ntmps59
  go_upto_if 12 with fail
  go_cut [] (fun wx => ∃ cs1 rv1 r1, Wr base b o w cs lv (.slice A t.r.length c) wx cs1 lv rv1 ⟨t.l, r1⟩ ∧ 1 ≤ r1.length ∧ r1.length ≤ 1000 ∧ r1.drop 1 = t.r.drop 1)
  case first =>
    by_cases hz : t.r.length = 0
    · have hz' : t.r = [] := List.length_eq_zero_iff.1 hz
      have HR : Hid (∃ cs1 rv1 r1, Wr base b o w cs lv (.slice A t.r.length c) ((w.alloc (.cells (ivs [0]).toArray 2)).setCell ⟨b, o + 1, none⟩ (.slice (some ⟨w.heap.size, 0, none⟩) 1 1)) cs1 lv rv1 ⟨t.l, r1⟩ ∧ 1 ≤ r1.length ∧ r1.length ≤ 1000 ∧ r1.drop 1 = t.r.drop 1) := by
        refine ⟨_, _, _, H0.setR (Ext.alloc w (.cells (ivs [0]).toArray 2)) (u := .slice (some ⟨w.heap.size, 0, none⟩) 1 1) (r' := [0]) (.inr ⟨w.heap.size, 0, 1, _, rfl, by simp, by omega, hb, Blk.new _ _ _ _ rfl, fun j hj => ?_⟩) (fun g hg => .inr (Nat.le_of_eq (ownS_some hg).1)), by simp, by simp, by simp [hz']⟩
        have : j = 0 := by simpa using hj
        subst this
        rfl
      generalize t.r.length = n at *
      subst hz
      clear hz' H0
      unfold Hid at HR
      rw [World.setCell_alloc_past _ _ _ _ hblt] at HR
      have HR := Lib.hid HR
      go_wp2_with fail
      go_meet
      exact HR.out
    · have bz : (((t.r.length : Nat) : Int) == 0) = false := beq_false_of_ne (by omega)
      have HR : Hid (∃ cs1 rv1 r1, Wr base b o w cs lv (.slice A t.r.length c) w cs1 lv rv1 ⟨t.l, r1⟩ ∧ 1 ≤ r1.length ∧ r1.length ≤ 1000 ∧ r1.drop 1 = t.r.drop 1) := ⟨_, _, _, H0, by omega, by omega, rfl⟩
      generalize t.r.length = n at *
      clear H0
      go_wp2_with fail
      go_meet
      exact HR.out
  case rest =>
    rename World => wa
    obtain ⟨cs1, rv1, r1, H1, h1, h1', hd1⟩ := hcut
    have H2 := H1
    clear H0 e0 e1 f1 hblt
    obtain ⟨g1, o1, c1, cg, rfl, q1, q2, q3, q4, q5⟩ := H1.at_.r.at h1
    have e1 := (H1.at_.blk.cell (o + 1)).trans H1.at_.er
    have x0 := (q4.cell (o1 + 0)).trans (q5 0 h1)
    have xf := q4.frozen o1
    have H2 := H1.poke h1 s
    simp only [Nat.add_zero] at x0
    obtain ⟨wb, hwb⟩ : ∃ W, W = wa.setCell ⟨g1, o1, none⟩ (.int .i64 s) := ⟨_, rfl⟩
    rw [← hwb] at H2
    have HE1 := Lib.hid e1
    clear q5 H1
    go_upto_block 0 with fail
    rw [← hwb]
    obtain ⟨r2, hr2⟩ : ∃ r2, r2 = writeR t s := ⟨_, rfl⟩
    have hr2' : s :: r1.drop 1 = r2 := by rw [hd1, hr2]; rfl
    have hr2l : r2.length = r1.length := by rw [← hr2']; simp; omega
    have hr20 : r2 = s :: r2.drop 1 := by rw [← hr2']; rfl
    have hr2d : r2.drop 1 = t.r.drop 1 := by rw [← hr2', ← hd1]; rfl
    have H2' : Wr base b o w cs lv (.slice A t.r.length c) wb cs1 lv (.slice (some ⟨g1, o1, none⟩) r2.length c1) ⟨t.l, r2⟩ := by rw [hr2l, ← hr2']; exact H2
    rw [← hr2l] at q1 ⊢
    rw [← hr2l] at h1 h1'
    have HW : Hid (writeT t s mv = if mv = 1 then ⟨trim (s :: t.l), trim (r2.drop 1)⟩ else if mv = -1 then ⟨trim (t.l.drop 1), trim (t.l.getD 0 0 :: r2)⟩ else ⟨trim t.l, trim r2⟩) := by
      unfold Hid writeT
      rw [← hr2, hr2d]
    have HR20 := Lib.hid hr20
    have hr2t : r2.take 1 = [s] := by rw [hr20]; simp
    clear hr20 hwb H2 x0 xf HE1 e1 q4 hr2' hd1 hr2l hr2 hr2d
    have b2 := H2'.at_.blk
    have y0 := (b2.cell o).trans H2'.at_.el
    have y1 := (b2.cell (o + 1)).trans H2'.at_.er
    have yf0 := b2.frozen o
    have yf1 := b2.frozen (o + 1)
    have hbw : b < wb.heap.size := b2.lt
    have hbb : base ≤ wb.heap.size := Nat.le_trans hb H2'.mv.size
    go_cut [] (fun wx => ∃ cs2 lv2 rv2 t2, Wr base b o w cs lv (.slice A t.r.length c) wx cs2 lv2 rv2 t2 ∧ t2.l.length ≤ 1001 ∧ t2.r.length ≤ 1001 ∧ writeT t s mv = ⟨trim t2.l, trim t2.r⟩)
    case first =>
      obtain ⟨Al, cl, rfl, hl1, hl2⟩ := H2'.at_.l.form
      have hb2 := Lib.hid b2
      clear b2 h
      by_cases hm1 : mv = 1
      · subst hm1
        have HWa := HW.out
        rw [if_pos rfl] at HWa
        have HWb := Lib.hid HWa
        clear HWa HW
        go_upto_region 5 with fail
        have i1 : Ints wb.drew (.slice (some ⟨g1, o1, none⟩) [s].length c1) [s] := by
          have := (H2'.at_.r.take 1 h1).ints
          rw [hr2t] at this
          exact this
        have i2 : Ints wb.drew (.slice Al t.l.length cl) t.l := H2'.at_.l.ints
        have fl1 : Flat (.slice (some ⟨g1, o1, none⟩) [s].length c1) := .inr ⟨_, _, _, _, rfl⟩
        have fl2 : Flat (.slice Al t.l.length cl) := H2'.at_.l.flat
        have c11 : 1 ≤ c1 := by omega
        refine wp_region_ord 12 [0, 1, 2, 3, 4, 5, 6, 7, 8, 9, 10, 11] (by kernel_rfl) (by kernel_rfl) (fun _ _ _ _ _ h => h) ?_
        simp only [pickO, List.drop_succ_cons, List.drop_zero, List.head?_cons, Option.elim_some]
        repeat (refine wpOrd_read (v := ?_) (by rfl) (Or.inl ⟨by rfl, fun x hx => ?_⟩) ?_; rotate_left; (· have a0 := hx.cell y0; have a1 := hx.cell y1; go_simp; try with_reducible rfl); simp only [Act.put, List.setIfInBounds_toArray, List.set_cons_zero, List.set_cons_succ])
        refine wpOrd_read (v := .slice (some ⟨g1, o1, none⟩) 1 c1) (by rfl) (Or.inl ⟨by rfl, fun x hx => ?_⟩) ?_
        · go_simp
          intro hh
          exact absurd hh (by omega)
        simp only [Act.put, List.setIfInBounds_toArray, List.set_cons_zero, List.set_cons_succ]
        repeat (refine wpOrd_read (v := ?_) (by rfl) (Or.inl ⟨by rfl, fun x hx => ?_⟩) ?_; rotate_left; (· have a0 := hx.cell y0; have a1 := hx.cell y1; go_simp; try with_reducible rfl); simp only [Act.put, List.setIfInBounds_toArray, List.set_cons_zero, List.set_cons_succ])
        refine wpOrd_stir (by rfl) (fun K hK => ?_)
        go_simp
        refine hK _ _ (Ext.alloc _ _) ?_
        clear hK K
        try simp only [Act.put, List.setIfInBounds_toArray, List.set_cons_zero, List.set_cons_succ]
        refine wpOrd_stir (by rfl) (fun K hK => ?_)
        go_simp
        go_at_call 75
        refine (joinedA_c _ _ _ _ [s] t.l wb.drew i1 i2 fl1 fl2 (by simp; omega)).mono ?_
        rintro e w3 ⟨u, rfl, ho, hx3⟩
        refine hK _ _ hx3 ?_
        clear hK K
        try simp only [Act.put, List.setIfInBounds_toArray, List.set_cons_zero, List.set_cons_succ]
        refine wpOrd_done ?_
        try simp only [List.drop_succ_cons, List.drop_zero]
        have hX3 : Ext wb w3 := ((Ext.drew wb).trans (Ext.alloc _ _)).trans hx3
        have HL := H2'.setL hX3 (u := u) (Side.ofOwn (ownsRow_base ho (show base ≤ wb.drew.heap.size from hbb))) (fun g hg => .inr (ho.ltS g hg).1)
        obtain ⟨Au, cu, rfl, _, _⟩ := ho.ints.form
        have z0 := hX3.cell y0
        have z1 := hX3.cell y1
        have b3 := hb2.out.ext hX3
        have zf0 := b3.frozen o
        have zf1 := b3.frozen (o + 1)
        clear y0 y1 yf0 yf1 i1 i2 fl1 fl2 hx3 ho H2' hX3 b3
        have HB1 : Hid ((⟨[s] ++ t.l, r2.drop 1⟩ : TapeD).l.length ≤ 1001) := by unfold Hid; simp; omega
        have HB2 : Hid ((⟨[s] ++ t.l, r2.drop 1⟩ : TapeD).r.length ≤ 1001) := by unfold Hid; simp; omega
        by_cases h11 : c1 = 1
        · subst h11
          have HR := Lib.hid (HL.setR (Ext.refl _) (HL.at_.r.drop1' h1) (fun g hg => by rw [ownS_zero] at hg; cases hg))
          clear HL
          generalize t.r.length = n at *
          generalize t.l.length = n' at *
          go_wp2_with fail
          go_meet
          exact ⟨_, _, _, _, HR.out, HB1.out, HB2.out, HWb.out⟩
        · have HR := Lib.hid (HL.setR (Ext.refl _) (HL.at_.r.drop1 h1 h11) (fun g hg => .inl (by have := ownS_some hg; rw [ownS_pos (by omega)]; exact congrArg some this.1)))
          clear HL
          generalize t.r.length = n at *
          generalize t.l.length = n' at *
          go_wp2_with fail
          go_meet
          exact ⟨_, _, _, _, HR.out, HB1.out, HB2.out, HWb.out⟩
      · have bm : (mv == 1) = false := beq_false_of_ne hm1
        by_cases hm2 : mv = -1
        · subst hm2
          go_upto_region 9 with fail
          have HWa := HW.out
          clear HW
          simp only [show ((-1 : Int) = 1) = False by decide, if_true, if_false] at HWa
          have EA := fun x : Int => Ext.alloc wb (.cells #[.int .i64 x] 2)
          by_cases hz : t.l.length = 0
          · have hz' : t.l = [] := List.length_eq_zero_iff.1 hz
            rw [hz'] at HWa
            have HWb := Lib.hid HWa
            clear HWa
            have HB1 : Hid ((⟨([] : List Int), [0] ++ r2⟩ : TapeD).l.length ≤ 1001) := by unfold Hid; simp
            have HB2 : Hid ((⟨([] : List Int), [0] ++ r2⟩ : TapeD).r.length ≤ 1001) := by unfold Hid; simp; omega
            have J := joinedA_c (some ⟨wb.heap.size, 0, none⟩) (some ⟨g1, o1, none⟩) 1 c1 [0] r2 (wb.alloc (.cells #[.int .i64 0] 2)) (ints_one_new wb 0) (H2'.at_.r.ints.ext (EA 0)) (.inr ⟨_, _, _, _, rfl⟩) (.inr ⟨_, _, _, _, rfl⟩) (by simp; omega)
            have hs : (wb.alloc (.cells #[.int .i64 0] 2)).heap.size = wb.heap.size + 1 := by simp
            rw [hs] at J
            have y1' := (EA 0).cell y1
            have y0' := (EA 0).cell y0
            clear hs
            generalize t.r.length = n at *
            generalize t.l.length = n' at *
            subst hz
            go_wp2_with fail
            refine J.mono ?_
            rintro e w3 ⟨u, rfl, ho, hx3⟩
            have hX3 := Lib.hid (((EA 0).trans (Ext.alloc _ _)).trans hx3)
            have HR := Lib.hid (H2'.setR hX3.out (Side.ofOwn (ownsRow_base ho (show base ≤ wb.heap.size + 1 by omega))) (fun g hg => .inr (by have := (ho.ltS g hg).1; omega)))
            rw [hz'] at HR
            obtain ⟨Au, cu, rfl, _, _⟩ := ho.ints.form
            have z0 := hX3.out.cell y0
            have z1 := hX3.out.cell y1
            have b3 := hb2.out.ext hX3.out
            have zf1 := b3.frozen (o + 1)
            clear y0 y1 y0' y1' yf0 yf1 ho J H2' b3 hx3 EA
            go_wp2_with fail
            go_meet
            exact ⟨_, _, _, _, HR.out, HB1.out, HB2.out, HWb.out⟩
          · have hz' : 0 < t.l.length := by omega
            have hlv := H2'.at_.l
            obtain ⟨g3, o3, c3, cg3, e, p1, p2, p3, p4, p5⟩ := hlv.at hz'
            have x0 := (p4.cell (o3 + 0)).trans (p5 0 hz')
            simp only [Nat.add_zero] at x0
            injection e with e1 e2 e3
            subst e1 e3
            have hx : t.l.getD 0 0 = t.l[0] := by rw [List.getD_eq_getElem?_getD, List.getElem?_eq_getElem hz']; rfl
            rw [hx] at HWa
            obtain ⟨x, hxx⟩ : ∃ x, t.l[0] = x := ⟨_, rfl⟩
            rw [hxx] at HWa x0
            have HWb := Lib.hid HWa
            clear hx hxx p5 HWa
            have x0' := (EA 0).cell x0
            have y1' := (EA 0).cell y1
            have y0' := (EA 0).cell y0
            have y0'' := (EA x).cell y0
            have g0 := ((Blk.new wb wb.heap.size 2 #[.int .i64 0] rfl).cell 0)
            have gf := ((Blk.new wb wb.heap.size 2 #[.int .i64 0] rfl).frozen 0)
            simp only [List.getElem?_toArray, List.getElem?_cons_zero] at g0
            have HB1 : Hid ((⟨t.l.drop 1, x :: r2⟩ : TapeD).l.length ≤ 1001) := by unfold Hid; simp; omega
            have HB2 : Hid ((⟨t.l.drop 1, x :: r2⟩ : TapeD).r.length ≤ 1001) := by unfold Hid; simp; omega
            have hs : ∀ L, ((wb.setCell ⟨b, o, none⟩ L).alloc (.cells #[.int .i64 x] 2)).heap.size = wb.heap.size + 1 := fun L => by simp
            have hs0 : ∀ L, (wb.setCell ⟨b, o, none⟩ L).heap.size = wb.heap.size := fun L => by simp
            by_cases h31 : cl = 1
            · subst h31
              have HL := (H2'.setL (Ext.refl _) (H2'.at_.l.drop1' hz') (fun g hg => by rw [ownS_zero] at hg; cases hg)).ext (Ext.alloc _ (.cells #[.int .i64 x] 2))
              have q1' := (HL.at_.blk.cell (o + 1)).trans HL.at_.er
              have J := joinedA_c (some ⟨(wb.setCell ⟨b, o, none⟩ (.slice (some ⟨g3, o3, none⟩) 0 0)).heap.size, 0, none⟩) (some ⟨g1, o1, none⟩) 1 c1 [x] r2 _ (ints_one_new _ x) HL.at_.r.ints (.inr ⟨_, _, _, _, rfl⟩) (.inr ⟨_, _, _, _, rfl⟩) (by simp; omega)
              rw [hs, hs0] at J
              generalize t.r.length = n at *
              generalize t.l.length = n' at *
              go_wp2_with fail
              refine J.mono ?_
              rintro e w3 ⟨u, rfl, ho, hx3⟩
              have hX3 := Lib.hid ((Ext.alloc _ _).trans hx3)
              have HR := Lib.hid (HL.setR hX3.out (Side.ofOwn (ownsRow_base ho (show base ≤ wb.heap.size + 1 by omega))) (fun g hg => .inr (by have := (ho.ltS g hg).1; simp; omega)))
              obtain ⟨Au, cu, rfl, _, _⟩ := ho.ints.form
              have b3 := HL.at_.blk.ext hX3.out
              have z1 := (b3.cell (o + 1)).trans HL.at_.er
              have zf1 := b3.frozen (o + 1)
              clear y0 y1 y0' y1' yf0 yf1 ho J H2' b3 hx3 EA HL q1' x0 x0' y0'' g0 gf hs hs0
              go_wp2_with fail
              go_meet
              exact ⟨_, _, _, _, HR.out, HB1.out, HB2.out, HWb.out⟩
            · have HL := (H2'.setL (Ext.refl _) (H2'.at_.l.drop1 hz' h31) (fun g hg => .inl (by have := ownS_some hg; rw [ownS_pos (by omega)]; exact congrArg some this.1))).ext (Ext.alloc _ (.cells #[.int .i64 x] 2))
              have q1' := (HL.at_.blk.cell (o + 1)).trans HL.at_.er
              have J := joinedA_c (some ⟨(wb.setCell ⟨b, o, none⟩ (.slice (some ⟨g3, o3 + 1, none⟩) (t.l.length - 1) (cl - 1))).heap.size, 0, none⟩) (some ⟨g1, o1, none⟩) 1 c1 [x] r2 _ (ints_one_new _ x) HL.at_.r.ints (.inr ⟨_, _, _, _, rfl⟩) (.inr ⟨_, _, _, _, rfl⟩) (by simp; omega)
              rw [hs, hs0] at J
              generalize t.r.length = n at *
              generalize t.l.length = n' at *
              go_wp2_with fail
              refine J.mono ?_
              rintro e w3 ⟨u, rfl, ho, hx3⟩
              have hX3 := Lib.hid ((Ext.alloc _ _).trans hx3)
              have HR := Lib.hid (HL.setR hX3.out (Side.ofOwn (ownsRow_base ho (show base ≤ wb.heap.size + 1 by omega))) (fun g hg => .inr (by have := (ho.ltS g hg).1; simp; omega)))
              obtain ⟨Au, cu, rfl, _, _⟩ := ho.ints.form
              have b3 := HL.at_.blk.ext hX3.out
              have z1 := (b3.cell (o + 1)).trans HL.at_.er
              have zf1 := b3.frozen (o + 1)
              clear y0 y1 y0' y1' yf0 yf1 ho J H2' b3 hx3 EA HL q1' x0 x0' y0'' g0 gf hs hs0
              go_wp2_with fail
              go_meet
              exact ⟨_, _, _, _, HR.out, HB1.out, HB2.out, HWb.out⟩
        · have bm2 : (mv == -1) = false := beq_false_of_ne hm2
          have HW := HW.out
          rw [if_neg hm1, if_neg hm2] at HW
          have HR : Hid (∃ cs2 lv2 rv2 t2, Wr base b o w cs (.slice Al t.l.length cl) (.slice A t.r.length c) wb cs2 lv2 rv2 t2 ∧ t2.l.length ≤ 1001 ∧ t2.r.length ≤ 1001 ∧ writeT t s mv = ⟨trim t2.l, trim t2.r⟩) := ⟨_, _, _, _, H2', by simp; omega, by simp; omega, HW⟩
          clear H2' HW
          generalize t.r.length = n at *
          generalize t.l.length = n' at *
          go_wp2_with fail
          go_meet
          exact HR.out
    case rest =>
      clear b2 H2' y0 y1 yf0 yf1 hbw HW
      rename World => wd
      obtain ⟨cs2, lv2, rv2, t2, H3, k1, k2, hw⟩ := hcut
      have HWD := Lib.hid hw
      clear hw
      obtain ⟨Al, cl, rfl, hl1, hl2⟩ := H3.at_.l.form
      obtain ⟨Ar, cr, rfl, hr1, hr2⟩ := H3.at_.r.form
      have b2 := H3.at_.blk
      have y0 := (b2.cell o).trans H3.at_.el
      have y1 := (b2.cell (o + 1)).trans H3.at_.er
      have yf0 := b2.frozen o
      have yf1 := b2.frozen (o + 1)
      have TL := trimmed_c _ t2.l wd.drew H3.at_.l.ints (by omega)
      have TR := trimmed_c _ t2.r wd.drew H3.at_.r.ints (by omega)
      have nl := trimN_le t2.l t2.l.length
      have nr := trimN_le t2.r t2.r.length
      have H3d := H3.setL (Ext.refl _) (H3.at_.l.take _ nl) (fun g hg => .inl (ownS_less nl hg))
      have HR := Lib.hid (H3d.setR (Ext.refl _) (H3d.at_.r.take _ nr) (fun g hg => .inl (ownS_less nr hg)))
      have TL' : Calls Tryz.prog 35 #[.slice Al t2.l.length cl] wd.drew fun e w' => e = .returned (.slice Al (trimN t2.l t2.l.length) cl) ∧ wd.drew = w' := TL.mono (by
        rintro e w3 ⟨⟨A3, c3, e3, rfl⟩, rfl⟩
        injection e3 with e31 e32 e33
        subst e31 e33
        exact ⟨rfl, rfl⟩)
      have TR' : Calls Tryz.prog 35 #[.slice Ar t2.r.length cr] wd.drew fun e w' => e = .returned (.slice Ar (trimN t2.r t2.r.length) cr) ∧ wd.drew = w' := TR.mono (by
        rintro e w3 ⟨⟨A3, c3, e3, rfl⟩, rfl⟩
        injection e3 with e31 e32 e33
        subst e31 e33
        exact ⟨rfl, rfl⟩)
      clear TL TR H3d H3 b2 nl nr
      go_upto_region 13 with fail
      go_region_law
        (first
          | (go_simp; go_at_call 35; ((with_reducible refine TL'.mono ?_)); rintro e _ ⟨rfl, rfl⟩)
          | (go_simp; go_at_call 35; ((with_reducible refine TR'.mono ?_)); rintro e _ ⟨rfl, rfl⟩))
      all_goals
        go_wp2_with fail
        refine bodyPost_end (results_none rfl _ _ _) rfl ?_
        rw [HWD.out]
        exact ⟨rfl, _, _, _, HR.out.ext (Ext.drew _)⟩
end Go.Proofs.YtgeckhjkahnonaaGreatDoor
end
section
set_option linter.unusedVariables false
set_option linter.unusedSimpArgs false
namespace Go.Proofs.YtgeckhjkahnonaaGreatDoor
open Go Go.RowKit Go.Proofs Go.Maps
set_option maxHeartbeats 400000
/-- A configuration behind a pointer: its own block, its tapes' block and its sides' blocks lie from w0 on, and none of them is one of the blocks K. -/
structure MAt (w0 : World) (K : Nat → Prop) (w : World) (bc gT cap : Nat) (cs : Array Value) (c : MConfD) : Prop where
  ext0 : Ext w0 w
  kb : ∀ k, K k → k < w.heap.size
  blo : w0.heap.size ≤ bc
  bK : ¬ K bc
  tlo : w0.heap.size ≤ gT
  tK : ¬ K gT
  cap1 : c.tapes.length ≤ cap
  cap2 : cap ≤ 9223372036854775807
  blk : Blk w bc 48 #[.int .i64 c.q, .slice (some ⟨gT, 0, none⟩) c.tapes.length cap]
  tblk : Blk w gT 91 cs
  side : ∀ i, (h : i < c.tapes.length) → ∃ lv rv, cs[i * 2]? = some lv ∧ cs[i * 2 + 1]? = some rv ∧ Side w0.heap.size w lv c.tapes[i].l ∧ Side w0.heap.size w rv c.tapes[i].r
  mid : ∀ (j : Nat) (v : Value) (g : Nat), j < c.tapes.length * 2 → cs[j]? = some v → v.ownS = some g → ¬ K g
  lt : ∀ (j : Nat) (v : Value) (g : Nat), j < c.tapes.length * 2 → cs[j]? = some v → v.ownS = some g → w0.heap.size ≤ g ∧ g < w.heap.size
  ap : ∀ (i j : Nat) (u v : Value) (g : Nat), i < c.tapes.length * 2 → j < c.tapes.length * 2 → i ≠ j → cs[i]? = some u → cs[j]? = some v → u.ownS = some g → v.ownS ≠ some g
/-- The blocks K are as they were. -/
def Kp (K : Nat → Prop) (w w' : World) : Prop := ∀ k, K k → w'.heap[k]? = w.heap[k]?
section
variable {w0 w w' : World} {K : Nat → Prop} {bc gT cap : Nat} {cs cs' : Array Value} {c : MConfD}
theorem MAt.ext (h : MAt w0 K w bc gT cap cs c) (he : Ext w w') : MAt w0 K w' bc gT cap cs c :=
  ⟨h.ext0.trans he, fun k hk => Nat.lt_of_lt_of_le (h.kb k hk) he.size, h.blo, h.bK, h.tlo, h.tK, h.cap1, h.cap2, h.blk.ext he, h.tblk.ext he,
    fun i hi => by obtain ⟨lv, rv, e1, e2, s1, s2⟩ := h.side i hi; exact ⟨lv, rv, e1, e2, s1.ext he, s2.ext he⟩, h.mid, fun j v g hjn hj hg => ⟨(h.lt j v g hjn hj hg).1, by have := (h.lt j v g hjn hj hg).2; have := he.size; omega⟩, h.ap⟩
theorem MAt.tape (h : MAt w0 K w bc gT cap cs c) {i : Nat} (hi : i < c.tapes.length) : ∃ lv rv, TapeAt w0.heap.size w gT (i * 2) cs lv rv c.tapes[i] := by
  obtain ⟨lv, rv, e1, e2, s1, s2⟩ := h.side i hi
  exact ⟨lv, rv, h.tblk, e1, e2, s1, s2, fun g hg => h.ap _ _ _ _ g (by omega) (by omega) (by omega) e1 e2 hg⟩
/-- Where a side's block comes from. -/
theorem Wr.org {base b o : Nat} {lv rv lv' rv' : Value} {t' : TapeD} (k : Wr base b o w cs lv rv w' cs' lv' rv' t') (el : cs[o]? = some lv) (er : cs[o + 1]? = some rv) (j : Nat) (v : Value) (g : Nat) (hj : cs'[j]? = some v) (hg : v.ownS = some g) :
    (∃ u, cs[j]? = some u ∧ u.ownS = some g) ∨ (w.heap.size ≤ g ∧ (j = o ∨ j = o + 1) ∧ g < w'.heap.size) := by
  by_cases h1 : j = o
  · subst h1
    rw [k.at_.el] at hj
    injection hj with hj
    subst hj
    rcases k.mv.newl g hg with e | e
    · exact .inl ⟨_, el, e⟩
    · exact .inr ⟨e, .inl rfl, (k.at_.l.lt g hg).2⟩
  · by_cases h2 : j = o + 1
    · subst h2
      rw [k.at_.er] at hj
      injection hj with hj
      subst hj
      rcases k.mv.newr g hg with e | e
      · exact .inl ⟨_, er, e⟩
      · exact .inr ⟨e, .inr rfl, (k.at_.r.lt g hg).2⟩
    · rw [k.oth j h1 h2] at hj
      exact .inl ⟨v, hj, hg⟩
theorem MAt.wrote (h : MAt w0 K w bc gT cap cs c) {i : Nat} (hi : i < c.tapes.length) {lv rv lv' rv' : Value} {t' : TapeD} (k : Wr w0.heap.size gT (i * 2) w cs lv rv w' cs' lv' rv' t') (el : cs[i * 2]? = some lv) (er : cs[i * 2 + 1]? = some rv) :
    MAt w0 K w' bc gT cap cs' ⟨c.q, c.tapes.set i t'⟩ ∧ Kp K w w' := by
  have hm := k.mv
  have ha := k.at_
  have ho := k.org el er
  have hne : bc ≠ gT := blk_ne h.blk h.tblk (by decide)
  have hrv : ∀ g, rv.ownS = some g → g ≠ bc := by
    obtain ⟨lv0, rv0, e1, e2, s1, s2⟩ := h.side i hi
    rw [er] at e2
    injection e2 with e2
    subst e2
    intro g hg e
    subst e
    exact s2.neT h.blk (by decide) hg
  have hw0 := h.ext0.size
  have hbl := h.blk.lt
  have hs := hm.size
  have hblo := h.blo
  have htlo := h.tlo
  have hK : Kp K w w' := fun q hq => hm.same q (h.kb q hq) (fun e => h.tK (e ▸ hq)) (fun e => h.mid _ _ _ (by omega) er e hq)
  refine ⟨⟨⟨hm.os.trans (Below.os h.ext0), hm.tape.trans (Below.tape h.ext0), hm.output.trans (Below.output h.ext0), by omega, fun q hq => (hm.same q (by omega) (by omega) (fun e => ?_)).trans (Below.block h.ext0 q hq)⟩,
    fun q hq => Nat.lt_of_lt_of_le (h.kb q hq) hs, h.blo, h.bK, h.tlo, h.tK, by simp [h.cap1], h.cap2, ?_, ha.blk, fun j hj => ?_, fun j v g hjn hj hg => ?_, fun j v g hjn hj hg => ?_, fun i1 j1 u v g hin hjn hij hu hv hgu hgv => ?_⟩, hK⟩
  · have := (h.lt _ _ _ (by omega) er e).1
    omega
  · rw [List.length_set]
    exact (hm.same bc hbl hne (fun e => hrv bc e rfl)).trans h.blk
  · rw [List.length_set] at hj
    by_cases hji : j = i
    · subst hji
      refine ⟨lv', rv', ha.el, ha.er, ?_, ?_⟩
      · simpa using ha.l
      · simpa using ha.r
    · obtain ⟨l1, r1, e1, e2, s1, s2⟩ := h.side j hj
      refine ⟨l1, r1, (k.oth _ (by omega) (by omega)).trans e1, (k.oth _ (by omega) (by omega)).trans e2, ?_, ?_⟩
      · rw [List.getElem_set_ne (by omega)]
        exact s1.same fun g hg => hm.same g (s1.lt g hg).2 (fun e => s1.ne h.tblk (by rw [← e]; exact hg)) (h.ap (j * 2) (i * 2 + 1) _ _ g (by omega) (by omega) (by omega) e1 er hg)
      · rw [List.getElem_set_ne (by omega)]
        exact s2.same fun g hg => hm.same g (s2.lt g hg).2 (fun e => s2.ne h.tblk (by rw [← e]; exact hg)) (h.ap (j * 2 + 1) (i * 2 + 1) _ _ g (by omega) (by omega) (by omega) e2 er hg)
  · rw [List.length_set] at hjn
    rcases ho j v g hj hg with ⟨u, hu, hg'⟩ | ⟨e, _, _⟩
    · exact h.mid j u g hjn hu hg'
    · exact fun hk => by have := h.kb g hk; omega
  · rw [List.length_set] at hjn
    rcases ho j v g hj hg with ⟨u, hu, hg'⟩ | ⟨e, _, e2⟩
    · have := h.lt j u g hjn hu hg'
      omega
    · omega
  · rw [List.length_set] at hin hjn
    rcases ho i1 u g hu hgu with ⟨u', hu', hgu'⟩ | ⟨e, he, _⟩
    · rcases ho j1 v g hv hgv with ⟨v', hv', hgv'⟩ | ⟨e, _, _⟩
      · exact h.ap i1 j1 u' v' g hin hjn hij hu' hv' hgu' hgv'
      · have := (h.lt _ _ _ hin hu' hgu').2
        omega
    · rcases ho j1 v g hv hgv with ⟨v', hv', hgv'⟩ | ⟨e', he', _⟩
      · have := (h.lt _ _ _ hjn hv' hgv').2
        omega
      · have a1 := ha.el
        have a2 := ha.er
        rcases he with rfl | rfl <;> rcases he' with rfl | rfl
        · exact hij rfl
        · rw [hu] at a1
          rw [hv] at a2
          injection a1 with a1
          injection a2 with a2
          subst a1 a2
          exact ha.ap g hgu hgv
        · rw [hv] at a1
          rw [hu] at a2
          injection a1 with a1
          injection a2 with a2
          subst a1 a2
          exact ha.ap g hgv hgu
        · exact hij rfl
end
/-- The first k tapes are written. -/
def tkM (ts : List TapeD) (ws ms : List Int) (k : Nat) : List TapeD := (writeAll ts ws ms).take k ++ ts.drop k
theorem tkM_len (ts : List TapeD) (ws ms : List Int) (k : Nat) (h : k ≤ ts.length) : (tkM ts ws ms k).length = ts.length := by
  simp [tkM, writeAll_length]; omega
theorem tkM_get (ts : List TapeD) (ws ms : List Int) (k : Nat) (h : k < ts.length) : (tkM ts ws ms k)[k]'(by rw [tkM_len _ _ _ _ (by omega)]; exact h) = ts[k] := by
  have e : ((writeAll ts ws ms).take k).length = k := by simp [writeAll_length]; omega
  simp only [tkM]
  rw [List.getElem_append_right (by omega)]
  simp [e]
theorem tkM_set (ts : List TapeD) (ws ms : List Int) (k : Nat) (h : k < ts.length) : (tkM ts ws ms k).set k (writeT ts[k] (ws.getD k 0) (ms.getD k 0)) = tkM ts ws ms (k + 1) := by
  have e : ((writeAll ts ws ms).take k).length = k := by simp [writeAll_length]; omega
  have e2 : (writeAll ts ws ms).take (k + 1) = (writeAll ts ws ms).take k ++ [writeT ts[k] (ws.getD k 0) (ms.getD k 0)] := by
    rw [List.take_succ_eq_append_getElem (by rw [writeAll_length]; exact h), writeAll_get ts ws ms k h]
  have e3 : ts.drop k = ts[k] :: ts.drop (k + 1) := List.drop_eq_getElem_cons h
  simp only [tkM]
  rw [List.set_append_right _ _ (by omega), e, Nat.sub_self, e3, e2, List.set_cons_zero, List.append_assoc]
  rfl
theorem tkM_all (ts : List TapeD) (ws ms : List Int) : tkM ts ws ms ts.length = writeAll ts ws ms := by
  simp only [tkM]
  rw [List.drop_length, List.append_nil, List.take_of_length_le (by rw [writeAll_length]; exact Nat.le_refl _)]
def okM (ts : List TapeD) (ws ms : List Int) (k : Nat) : Bool := ((writeAll ts ws ms).take k).all roomT
theorem okM_succ (ts : List TapeD) (ws ms : List Int) (k : Nat) (h : k < ts.length) : okM ts ws ms (k + 1) = (okM ts ws ms k && roomT (writeT ts[k] (ws.getD k 0) (ms.getD k 0))) := by
  unfold okM
  rw [List.take_succ_eq_append_getElem (by rw [writeAll_length]; exact h), writeAll_get ts ws ms k h, List.all_append]
  simp
theorem okM_all (ts : List TapeD) (ws ms : List Int) : okM ts ws ms ts.length = (writeAll ts ws ms).all roomT := by
  unfold okM
  rw [List.take_of_length_le (by rw [writeAll_length]; exact Nat.le_refl _)]
theorem Wr.blkT {base b o g : Nat} {w w' : World} {cs cs' cg : Array Value} {lv rv lv' rv' : Value} {t t' : TapeD} {ty : TypeId} (k : Wr base b o w cs lv rv w' cs' lv' rv' t') (h : Blk w g ty cg) (hb : Blk w b 91 cs) (hr : Side base w rv t.r) (h1 : ty ≠ 91) (h2 : 2 ≠ ty) : Blk w' g ty cg :=
  (k.mv.same g h.lt (blk_ne h hb h1) (hr.neT h h2)).trans h
theorem MAt.setQ {w0 w : World} {K : Nat → Prop} {bc gT cap : Nat} {cs : Array Value} {c : MConfD} (h : MAt w0 K w bc gT cap cs c) (q : Int) : MAt w0 K (w.setCell ⟨bc, 0, none⟩ (.int .i64 q)) bc gT cap cs ⟨q, c.tapes⟩ ∧ Kp K w (w.setCell ⟨bc, 0, none⟩ (.int .i64 q)) := by
  have hs : (w.setCell ⟨bc, 0, none⟩ (.int .i64 q)).heap.size = w.heap.size := by simp [World.setCell]
  refine ⟨⟨h.ext0.setCell (p := ⟨bc, 0, none⟩) h.blo _, fun k hk => by rw [hs]; exact h.kb k hk, h.blo, h.bK, h.tlo, h.tK, h.cap1, h.cap2, h.blk.set_ 0 _, h.tblk.far (by exact fun e => blk_ne h.blk h.tblk (by decide) e.symm) _, fun i hi => ?_, h.mid, fun j v g hjn hj hg => by rw [hs]; exact h.lt j v g hjn hj hg, h.ap⟩, fun k hk => Below.heap_setCell w _ _ k (fun e => h.bK (by have e : k = bc := e; rw [← e]; exact hk))⟩
  obtain ⟨lv, rv, e1, e2, s1, s2⟩ := h.side i hi
  exact ⟨lv, rv, e1, e2, s1.far (s1.neT h.blk (by decide)) _, s2.far (s2.neT h.blk (by decide)) _⟩
set_option maxRecDepth 20000 in
set_option maxHeartbeats 4000000 in
theorem apply_c (w0 w : World) (K : Nat → Prop) (bc gT cap : Nat) (cs : Array Value) (c : MConfD) (r : MRuleD) (vr vw vm : Value) (h : MAt w0 K w bc gT cap cs c) (hr : Ints w0 vr r.rd) (hw : Ints w0 vw r.wr) (hm : Ints w0 vm r.mv)
    (lw : c.tapes.length ≤ r.wr.length) (lm : c.tapes.length ≤ r.mv.length) (hn : c.tapes.length ≤ 1000) (hT : ∀ i, (hi : i < c.tapes.length) → c.tapes[i].l.length ≤ 1000 ∧ c.tapes[i].r.length ≤ 1000) :
    Calls Tryz.prog 39 #[.pointer (some ⟨bc, 0, none⟩), .agg #[.int .i64 r.st, vr, vw, vm, .int .i64 r.nx]] w fun e w' => e = .returned (.bool (roomM (applyM c r))) ∧ ∃ cs', MAt w0 K w' bc gT cap cs' (applyM c r) ∧ Kp K w w' := by
  obtain ⟨A1, k1, rfl, _, _⟩ := hr.form
  obtain ⟨A2, k2, rfl, _, _⟩ := hw.form
  obtain ⟨A3, k3, rfl, _, _⟩ := hm.form
  obtain ⟨V, hV⟩ : ∃ V, V = w.alloc (.cells #[.int .i64 r.st, .slice A1 r.rd.length k1, .slice A2 r.wr.length k2, .slice A3 r.mv.length k3, .int .i64 r.nx] 43) := ⟨_, rfl⟩
  have hXV : Ext w V := by rw [hV]; exact Ext.alloc _ _
  obtain ⟨g, hg⟩ : ∃ g, w.heap.size = g := ⟨_, rfl⟩
  have bG : Blk V g 43 #[.int .i64 r.st, .slice A1 r.rd.length k1, .slice A2 r.wr.length k2, .slice A3 r.mv.length k3, .int .i64 r.nx] := by rw [hV]; exact Blk.new _ _ _ _ hg
  have st0 : MAt w0 K V bc gT cap cs ⟨c.q, tkM c.tapes r.wr r.mv 0⟩ := by
    have e : tkM c.tapes r.wr r.mv 0 = c.tapes := by simp [tkM]
    rw [e]
    exact h.ext hXV
  have e1 := st0.blk.cell 1
  simp only [List.getElem?_toArray, List.getElem?_cons_zero, List.getElem?_cons_succ] at e1
  rw [tkM_len _ _ _ _ (Nat.zero_le _)] at e1
  obtain ⟨n, hnn⟩ : ∃ n, c.tapes.length = n := ⟨_, rfl⟩
  have HRES : Hid (roomM (applyM c r) = okM c.tapes r.wr r.mv n) := by unfold Hid; rw [← hnn, okM_all]; rfl
  rw [hnn] at e1
  rw [HRES.out]
  have e1w := h.blk.cell 1
  simp only [List.getElem?_toArray, List.getElem?_cons_zero, List.getElem?_cons_succ] at e1w
  rw [hnn] at e1w
  have hbl := h.blk.lt
  rw [hg] at hbl
  have HN := Lib.hid hnn
  have kp0 : Kp K w V := fun k hk => Below.block hXV k (h.kb k hk)
  have HKB : Hid (∀ k, K k → k < w.heap.size) := h.kb
  clear h
  go_enter Tryz.func39, Tryz.ntmps39
  go_wp2_with fail
  try rw [← hV]
  try rw [hg]
  clear hV
  go_loopw [5, 13] (fun u i wr => ∃ (k : Nat) (cs' : Array Value), k ≤ n ∧ i = .int .i64 (k : Int) ∧ u = .bool (okM c.tapes r.wr r.mv k) ∧ MAt w0 K wr bc gT cap cs' ⟨c.q, tkM c.tapes r.wr r.mv k⟩ ∧ Kp K w wr ∧ Blk wr g 43 #[.int .i64 r.st, .slice A1 r.rd.length k1, .slice A2 r.wr.length k2, .slice A3 r.mv.length k3, .int .i64 r.nx]) (fun _ i _ => n - (intOf i).toNat)
  case atStart => exact ⟨0, _, Nat.zero_le _, rfl, rfl, st0, kp0, bG⟩
  case round =>
    clear st0 bG e1 hXV e1w
    obtain ⟨k, cs', hk, rfl, rfl, st, kp, bG⟩ := hrel
    have b1 := st.blk.cell 1
    have b0 := st.blk.cell 0
    simp only [List.getElem?_toArray, List.getElem?_cons_zero, List.getElem?_cons_succ] at b1 b0
    rw [tkM_len _ _ _ _ (by rw [HN.out]; exact hk), HN.out] at b1
    have q2 := bG.cell 2
    have q3 := bG.cell 3
    have q4 := bG.cell 4
    simp only [List.getElem?_toArray, List.getElem?_cons_zero, List.getElem?_cons_succ] at q2 q3 q4
    by_cases hlt : k < n
    · have hlt' : k < c.tapes.length := by rw [HN.out]; exact hlt
      have hltk : k < (tkM c.tapes r.wr r.mv k).length := by rw [tkM_len _ _ _ _ (by omega)]; exact hlt'
      obtain ⟨lv, rv, tp⟩ := st.tape hltk
      have htg : (tkM c.tapes r.wr r.mv k)[k] = c.tapes[k] := tkM_get _ _ _ k hlt'
      obtain ⟨t, ht⟩ : ∃ t, c.tapes[k] = t := ⟨_, rfl⟩
      have hT' := hT k hlt'
      simp only [htg] at tp
      rw [ht] at tp hT'
      obtain ⟨b2, o2, rfl, hc2⟩ := hw.at (k := k) (by omega)
      obtain ⟨b3, o3, rfl, hc3⟩ := hm.at (k := k) (by omega)
      have x2 := st.ext0.cell (hc2 k (by omega))
      have x3 := st.ext0.cell (hc3 k (by omega))
      have WR := write_c w0.heap.size gT (k * 2) wr.drew cs' lv rv t r.wr[k] r.mv[k] ⟨tp.blk, tp.el, tp.er, tp.l, tp.r, tp.ap⟩ st.ext0.size hT'.1 hT'.2
      have HS := Lib.hid (tkM_set c.tapes r.wr r.mv k hlt')
      have HO := Lib.hid (okM_succ c.tapes r.wr r.mv k hlt')
      rw [ht] at HS HO
      have g2 : r.wr.getD k 0 = r.wr[k] := by rw [List.getD_eq_getElem?_getD, List.getElem?_eq_getElem (by omega)]; rfl
      have g3 : r.mv.getD k 0 = r.mv[k] := by rw [List.getD_eq_getElem?_getD, List.getElem?_eq_getElem (by omega)]; rfl
      rw [g2, g3] at HS HO
      clear g2 g3 htg hc2 hc3
      have HLW := Lib.hid lw
      have HLM := Lib.hid lm
      generalize r.wr[k] = zs at *
      generalize r.mv[k] = zm at *
      clear lw lm hT
      have hkw : k < r.wr.length := by have := HLW.out; omega
      have hkm : k < r.mv.length := by have := HLM.out; omega
      go_upto_region 6 with fail
      refine wp_region_ord 11 [0, 1, 2, 3, 4, 5, 6, 7, 8, 9, 10] (by kernel_rfl) (by kernel_rfl) (fun _ _ _ _ _ h => h) ?_
      simp only [pickO, List.drop_succ_cons, List.drop_zero, List.head?_cons, Option.elim_some]
      repeat (refine wpOrd_read (v := ?_) (by rfl) (Or.inl ⟨by rfl, fun x hx => ?_⟩) ?_; rotate_left; (· have a2 := hx.cell q2; have a3 := hx.cell q3; have a4 := hx.cell x2; have a5 := hx.cell x3; go_simp; try with_reducible rfl); simp only [Act.put, List.setIfInBounds_toArray, List.set_cons_zero, List.set_cons_succ])
      refine wpOrd_done ?_
      try simp only [List.drop_succ_cons, List.drop_zero]
      go_wp2_with fail
      refine WR.mono ?_
      rintro e w5 ⟨rfl, cs5, lv5, rv5, k5⟩
      obtain ⟨st5, kp5⟩ := (st.ext (Ext.drew _)).wrote hltk k5 tp.el tp.er
      have kp5 : Kp K w w5 := fun q hq => (kp5 q hq).trans (kp q hq)
      simp only [HS.out] at st5
      have bG5 := k5.blkT (bG.ext (Ext.drew _)) tp.blk tp.r (by decide) (by decide)
      have y0 := (k5.at_.blk.cell (k * 2)).trans k5.at_.el
      have y1 := (k5.at_.blk.cell (k * 2 + 1)).trans k5.at_.er
      obtain ⟨A5, c5, rfl, _, _⟩ := k5.at_.l.form
      obtain ⟨B5, d5, rfl, _, _⟩ := k5.at_.r.form
      have HO := HO.out
      unfold roomT at HO
      have HST := Lib.hid st5
      clear k5 WR tp st bG b0 b1 q2 q3 q4 x2 x3 HS st5 hT' ht hltk
      generalize writeT t zs zm = t' at *
      generalize t'.l.length = nl at *
      generalize t'.r.length = nr at *
      generalize okM c.tapes r.wr r.mv k = u at *
      have HOO := Lib.hid HO
      clear HO
      cases u with
      | false =>
        go_wp2_with fail
        go_roundw
        case rel => exact ⟨k + 1, cs5, by omega, by go_num, by rw [HOO.out]; rfl, HST.out, kp5, bG5⟩
        case measure => simp [intOf]; omega
      | true =>
        by_cases h1 : nl ≤ 200
        · have L1 : decide ((nl : Int) ≤ 200) = true := by simp; omega
          have L1' : decide (nl ≤ 200) = true := by simp; omega
          by_cases h2 : nr ≤ 200
          · have L2 : decide ((nr : Int) ≤ 200) = true := by simp; omega
            have L2' : decide (nr ≤ 200) = true := by simp; omega
            go_wp2_with fail
            go_roundw
            case rel => exact ⟨k + 1, cs5, by omega, by go_num, by rw [HOO.out, L1', L2']; rfl, HST.out, kp5, bG5⟩
            case measure => simp [intOf]; omega
          · have L2 : decide ((nr : Int) ≤ 200) = false := by simp; omega
            have L2' : decide (nr ≤ 200) = false := by simp; omega
            go_wp2_with fail
            go_roundw
            case rel => exact ⟨k + 1, cs5, by omega, by go_num, by rw [HOO.out, L1', L2']; rfl, HST.out, kp5, bG5⟩
            case measure => simp [intOf]; omega
        · have L1 : decide ((nl : Int) ≤ 200) = false := by simp; omega
          have L1' : decide (nl ≤ 200) = false := by simp; omega
          go_wp2_with fail
          go_roundw
          case rel => exact ⟨k + 1, cs5, by omega, by go_num, by rw [HOO.out, L1']; rfl, HST.out, kp5, bG5⟩
          case measure => simp [intOf]; omega
    · obtain rfl : k = n := by omega
      obtain ⟨stq, kpq⟩ := st.setQ r.nx
      have HKQ : Hid (Kp K w (wr.setCell ⟨bc, 0, none⟩ (.int .i64 r.nx))) := fun q hq => (kpq q hq).trans (kp q hq)
      have ea : tkM c.tapes r.wr r.mv k = writeAll c.tapes r.wr r.mv := by rw [← HN.out, tkM_all]
      simp only [ea] at stq
      have HF := Lib.hid stq
      have f0 := st.blk.frozen 0
      have hgb : bc ≠ g := blk_ne st.blk bG (by decide)
      clear stq st ea
      go_wp2_with fail
      go_ret
      exact ⟨rfl, _, HF.out, HKQ.out⟩
end Go.Proofs.YtgeckhjkahnonaaGreatDoor
end
