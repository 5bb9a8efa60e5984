/- Worlds that keep the blocks from one on.
Contract of the reference's step of a configuration with several tapes.
Contract of the reference's copy of a configuration with several tapes. -/
import Derived.Test.YtkbpchdncljlbaaGreatDoorV03
import Derived.Test.YtkbpchdncljlbaaGreatDoorV39
import Derived.Test.YtkbpchdncljlbaaGreatDoorV40
import Derived.Test.YtkbpchdncljlbaaGreatDoorV24
import Derived.Test.YtkbpchdncljlbaaGreatDoorV29
import Derived.Test.YtkbpchdncljlbaaGreatDoorV06
import Derived.Test.YtkbpchdncljlbaaGreatDoorV11
section
set_option linter.unusedSimpArgs false
set_option linter.unusedVariables false
namespace Go.Proofs.YtkbpchdncljlbaaGreatDoor
open Go Go.RowKit Go.Proofs
/-- The blocks from base on are as they were. -/
def KeepB (base : Nat) (w W : World) : Prop := w.heap.size ≤ W.heap.size ∧ ∀ k, base ≤ k → k < w.heap.size → W.heap[k]? = w.heap[k]?
theorem KeepB.refl (base : Nat) (w : World) : KeepB base w w := ⟨Nat.le_refl _, fun _ _ _ => rfl⟩
theorem KeepB.trans {base : Nat} {a b c : World} (h : KeepB base a b) (k : KeepB base b c) : KeepB base a c :=
  ⟨Nat.le_trans h.1 k.1, fun i hi hl => (k.2 i hi (by have := h.1; omega)).trans (h.2 i hi hl)⟩
theorem KeepB.of_ext {base : Nat} {w W : World} (h : Ext w W) : KeepB base w W := ⟨h.size, fun k _ hl => Below.block h k hl⟩
theorem KeepB.setCell {base : Nat} (w : World) {p : Addr} (hp : p.block < base) (v : Value) : KeepB base w (w.setCell p v) := by
  refine ⟨by simp [World.setCell], fun k hk hl => Below.heap_setCell w p v k ?_⟩
  omega
theorem KeepB.cell {base : Nat} {w W : World} (h : KeepB base w W) {p : Addr} {v : Value} (hb : base ≤ p.block) (hp : w.cell? p = some v) : W.cell? p = some v := by
  have hl := World.block_lt_of_cell? w p hp
  have e := h.2 p.block hb hl
  rw [← hp]
  unfold World.cell?
  rw [e]
theorem ownsRow_keepB {w W : World} {base : Nat} {e : TypeId} {size : Nat} {v : Value} {n : Nat} {xs : List Value} (h : w.ownsRow base e size v n xs) (hk : KeepB base w W) : W.ownsRow base e size v n xs := by
  obtain ⟨h1, h2⟩ := h
  refine ⟨h1, ?_⟩
  rcases h2 with h2 | ⟨g, cap, cur, hv, hb, hh, r⟩
  · exact .inl h2
  · exact .inr ⟨g, cap, cur, hv, hb, (hk.2 g hb (Array.getElem?_eq_some_iff.1 hh).1).trans hh, r⟩
end Go.Proofs.YtkbpchdncljlbaaGreatDoor
end
section
set_option linter.unusedVariables false
set_option linter.unusedSimpArgs false
namespace Go.Proofs.YtkbpchdncljlbaaGreatDoor
open Go Go.RowKit Go.Proofs Go.Maps
set_option maxHeartbeats 400000
/-- The cells of tapes, whose sides are rows of their own. -/
def TCells (base : Nat) (w : World) (cl : List Value) (ts : List TapeD) : Prop :=
  cl.length = ts.length * 2 ∧ ∀ i, (h : i < ts.length) → ∃ lv rv, cl[i * 2]? = some lv ∧ cl[i * 2 + 1]? = some rv ∧ OwnInts base w lv ts[i].l ∧ OwnInts base w rv ts[i].r
theorem TCells.nil (base : Nat) (w : World) : TCells base w [] [] := ⟨rfl, fun i h => by simp at h⟩
theorem TCells.snoc {base : Nat} {w : World} {cl : List Value} {ts : List TapeD} {t : TapeD} {lv rv : Value} (h : TCells base w cl ts) (h1 : OwnInts base w lv t.l) (h2 : OwnInts base w rv t.r) : TCells base w (cl ++ [lv, rv]) (ts ++ [t]) := by
  obtain ⟨a, b⟩ := h
  refine ⟨by simp [a]; omega, fun i hi => ?_⟩
  by_cases hlt : i < ts.length
  · obtain ⟨x, y, c0, c1, o⟩ := b i hlt
    refine ⟨x, y, by rw [List.getElem?_append_left (by omega), c0], by rw [List.getElem?_append_left (by omega), c1], ?_⟩
    rw [List.getElem_append_left hlt]
    exact o
  · obtain rfl : i = ts.length := by simp at hi; omega
    refine ⟨lv, rv, by rw [List.getElem?_append_right (by omega)]; simp [a], by rw [List.getElem?_append_right (by omega)]; simp [a], ?_⟩
    rw [List.getElem_append_right (by omega)]
    simpa using ⟨h1, h2⟩
theorem TCells.ext {base : Nat} {w w' : World} {cl : List Value} {ts : List TapeD} (h : TCells base w cl ts) (he : Ext w w') : TCells base w' cl ts :=
  ⟨h.1, fun i hi => by
    obtain ⟨x, y, c0, c1, o1, o2⟩ := h.2 i hi
    exact ⟨x, y, c0, c1, OwnInts.ext o1 he, OwnInts.ext o2 he⟩⟩
theorem TCells.same {base : Nat} {w w' : World} {cl : List Value} {ts : List TapeD} (h : TCells base w cl ts) (hs : ∀ g cs, Blk w g 2 cs → w'.heap[g]? = w.heap[g]?) : TCells base w' cl ts := by
  have hi : ∀ {u : Value} {zs : List Int}, OwnInts base w u zs → OwnInts base w' u zs := fun {u zs} o => own_same o (fun g hg => by
    rcases o.2 with ⟨rfl, _⟩ | ⟨g', cap, cur, rfl, _, hh, _⟩
    · simp [Value.ownBlock] at hg
    · simp [Value.ownBlock] at hg
      subst hg
      exact hs _ _ hh)
  refine ⟨h.1, fun i hi' => ?_⟩
  obtain ⟨x, y, c0, c1, o1, o2⟩ := h.2 i hi'
  exact ⟨x, y, c0, c1, hi o1, hi o2⟩
theorem TCells.keepB {base : Nat} {w w' : World} {cl : List Value} {ts : List TapeD} (h : TCells base w cl ts) (hk : KeepB base w w') : TCells base w' cl ts :=
  ⟨h.1, fun i hi => by
    obtain ⟨x, y, c0, c1, o1, o2⟩ := h.2 i hi
    exact ⟨x, y, c0, c1, ownsRow_keepB o1 hk, ownsRow_keepB o2 hk⟩⟩
/-- Tapes in a row of their own. -/
def OwnT (base : Nat) (w : World) (v : Value) (ts : List TapeD) : Prop := ∃ cl, w.ownsRow base 50 2 v ts.length cl ∧ TCells base w cl ts
theorem OwnT.ext {base : Nat} {w w' : World} {v : Value} {ts : List TapeD} (h : OwnT base w v ts) (he : Ext w w') : OwnT base w' v ts := by
  obtain ⟨cl, a, b⟩ := h
  exact ⟨cl, ownsRow_ext a he, b.ext he⟩
theorem OwnT.keepB {base : Nat} {w w' : World} {v : Value} {ts : List TapeD} (h : OwnT base w v ts) (hk : KeepB base w w') : OwnT base w' v ts := by
  obtain ⟨cl, a, b⟩ := h
  exact ⟨cl, ownsRow_keepB a hk, b.keepB hk⟩
theorem OwnT.form {base : Nat} {w : World} {v : Value} {ts : List TapeD} (h : OwnT base w v ts) : ∃ A c, v = .slice A ts.length c ∧ ts.length ≤ c ∧ c ≤ 9223372036854775807 := by
  obtain ⟨cl, h1, h2⟩ := h
  obtain ⟨A, c, e, a, b, _⟩ := (ownsRow_row h1).form
  exact ⟨A, c, e, a, b⟩
theorem OwnT.far {base : Nat} {w : World} {v : Value} {ts : List TapeD} (h : OwnT base w v ts) {g : Nat} {t : TypeId} {cs : Array Value} (hb : Blk w g t cs) (h1 : t ≠ 50) (h2 : t ≠ 2) (i : Nat) (u : Value) : OwnT base (w.setCell ⟨g, i, none⟩ u) v ts := by
  obtain ⟨cl, ho, hc⟩ := h
  exact ⟨cl, own_kept ho (grownBy_setCell w ⟨g, i, none⟩ u) (blk_ne_row hb ho h1), hc.same fun q cs' hq => Below.heap_setCell w _ u q (by exact blk_ne hq hb (fun e => h2 e.symm))⟩
theorem OwnT.tapes {base : Nat} {w : World} {v : Value} {ts : List TapeD} (h : OwnT base w v ts) : Tapes w v ts := by
  obtain ⟨cl, h1, h2⟩ := h
  obtain ⟨A, c, rfl, a, b, hr⟩ := ownsRow_row h1
  refine ⟨A, c, rfl, a, b, fun hn => ?_⟩
  obtain ⟨g, off, rfl, hc⟩ := hr.2 hn
  refine ⟨g, off, rfl, fun i hi => ?_⟩
  obtain ⟨x, y, c0, c1, o1, o2⟩ := h2.2 i hi
  have hl := h2.1
  exact ⟨x, y, (hc _ (by omega)).trans c0, by rw [Nat.add_assoc]; exact (hc _ (by omega)).trans c1, o1.ints, o2.ints⟩
theorem tapeInfoS : (Tryz.prog.info? 50).map (fun i => (i.zero, i.size, i.bytes)) = some (some (.agg #[.slice none 0 0, .slice none 0 0]), 2, 48) := by kernel_rfl
/-- What a step of the reference gives. -/
def StepRS (m : MultiD) (c : MConfD) (base : Nat) (e : Ending) (w' : World) : Prop :=
  (lookM m.rules c = none ∧ e = .returned (.tuple #[.agg #[.int .i64 0, .slice none 0 0], .int .i64 6])) ∨
  (∃ k, lookM m.rules c = some k ∧ roomM (applyM c (m.rules.getD k mr0)) = false ∧ e = .returned (.tuple #[.agg #[.int .i64 0, .slice none 0 0], .int .i64 5])) ∨
  (∃ k A cap, lookM m.rules c = some k ∧ roomM (applyM c (m.rules.getD k mr0)) = true ∧ e = .returned (.tuple #[.agg #[.int .i64 (applyM c (m.rules.getD k mr0)).q, .slice A c.tapes.length cap], .int .i64 0]) ∧ OwnT base w' (.slice A c.tapes.length cap) (applyM c (m.rules.getD k mr0)).tapes)
/-- A tape that the reference has just made. -/
structure TpNew (w : World) (t : TapeD) (p : Value) (wx : World) : Prop where
  ext : Ext w wx
  at_ : ∃ gt lv rv, p = .pointer (some ⟨gt, 0, none⟩) ∧ w.heap.size ≤ gt ∧ Blk wx gt 50 #[lv, rv] ∧ OwnInts w.heap.size wx lv t.l ∧ OwnInts w.heap.size wx rv t.r
set_option maxRecDepth 20000 in
set_option maxHeartbeats 4000000 in
theorem l06Step_c (bm bc : Nat) (m : MultiD) (c : MConfD) (rv tv : Value) (w : World) (hm : multiOk m = true) (hn : (c.tapes.length : Int) = m.tp) (hb : Blk w bm 26 #[.int .i64 m.tp, .int .i64 m.sy, .int .i64 m.st, rv]) (hr : MRules w rv m.rules)
    (q0 : w.cell? ⟨bc, 0, none⟩ = some (.int .i64 c.q)) (q1 : w.cell? ⟨bc, 1, none⟩ = some tv) (hT : Tapes w tv c.tapes) (hL : ∀ t ∈ c.tapes, t.l.length ≤ 1000 ∧ t.r.length ≤ 1000) :
    Calls Tryz.prog 77 #[.pointer (some ⟨bm, 0, none⟩), .pointer (some ⟨bc, 0, none⟩)] w fun e w' => StepRS m c w.heap.size e w' ∧ Ext w w' := by
  obtain ⟨i0, hi0, hz0, hz1, hz2⟩ := info_parts tapeInfoS
  obtain ⟨⟨t1, t2⟩, _⟩ := multi_all hm
  obtain ⟨A, ct, rfl, ht1, ht2⟩ := hT.form
  obtain ⟨B, cr, rfl, hr1, hr2⟩ := hr.form
  obtain ⟨V, hV⟩ : ∃ V, V = w.alloc (.cells #[.int .i64 0, .slice none 0 0] 29) := ⟨_, rfl⟩
  obtain ⟨g, hg⟩ : ∃ g, w.heap.size = g := ⟨_, rfl⟩
  have hX : Ext w V := by rw [hV]; exact Ext.alloc _ _
  have bO : Blk V g 29 #[.int .i64 0, .slice none 0 0] := by rw [hV]; exact Blk.new _ _ _ _ hg
  have RU := l06Rule_c bm bc m c _ _ V hm hn (hb.ext hX) (hr.ext hX) (hX.cell q0) (hX.cell q1) (hT.ext hX)
  have HM := Lib.hid hm
  have HN : Hid ((c.tapes.length : Int) = m.tp) := hn
  have h3 : c.tapes.length ≤ 3 := by omega
  have HL := Lib.hid hL
  clear hn hL hm
  cases hlk : lookM m.rules c with
  | none =>
    rw [hlk] at RU
    have HLK := Lib.hid hlk
    clear hlk
    simp only [ixOf] at RU
    go_enter Tryz.func77, Tryz.ntmps77
    go_wp2_with fail
    try rw [← hV]
    try rw [hg]
    clear hV
    refine RU.mono ?_
    rintro e w1 ⟨rfl, hx1⟩
    have bO1 := bO.ext hx1
    have ob := bO1.cell
    have of_ := bO1.frozen
    have HE : Hid (∀ a b, Ext w ((w1.setCell ⟨g, 0, none⟩ a).setCell ⟨g, 1, none⟩ b)) := Lib.hid fun a b => ((hX.trans hx1).setCell (p := ⟨g, 0, none⟩) (by show w.heap.size ≤ g; omega) a).setCell (p := ⟨g, 1, none⟩) (by show w.heap.size ≤ g; omega) b
    clear RU hT hr hb q0 q1
    go_wp2_with fail
    exact bodyPost_ret (v := .tuple #[.agg #[.int .i64 0, .slice none 0 0], .int .i64 6]) (by simp [results, Tryz.results77, go_sem, ob]) rfl ⟨.inl ⟨HLK.out, rfl⟩, HE.out _ _⟩
  | some k0 =>
    rw [hlk] at RU
    have HLK := Lib.hid hlk
    have hk0 : k0 < m.rules.length := findM_lt hlk
    clear hlk
    simp only [ixOf] at RU
    have hk1 : decide ((k0 : Int) < 0) = false := decide_eq_false (by omega)
    obtain ⟨b, off, vr, vw, vm, hB, r0, r1, r2, r3, r4, j1, j2, j3⟩ := hr.at hk0
    subst hB
    have HGD := Lib.hid (getD_get hk0)
    have hro := multi_rule HM.out hk0
    obtain ⟨ru, hru⟩ : ∃ r, m.rules[k0] = r := ⟨_, rfl⟩
    rw [hru] at r0 r4 j1 j2 j3 HGD hro
    have hrs := mrule_all hro
    obtain ⟨_, _, _, lw, lm, _⟩ := hrs
    obtain ⟨A2, k2, rfl, _, _⟩ := id j2.form
    obtain ⟨A3, k3, rfl, _, _⟩ := id j3.form
    have hlw : c.tapes.length ≤ ru.wr.length := by have := HN.out; omega
    have hlm : c.tapes.length ≤ ru.mv.length := by have := HN.out; omega
    have m3 := hb.cell 3
    simp only [List.getElem?_toArray, List.getElem?_cons_zero, List.getElem?_cons_succ] at m3
    clear hro lw lm hru
    go_enter Tryz.func77, Tryz.ntmps77
    go_wp2_with fail
    try rw [← hV]
    try rw [hg]
    clear hV
    refine RU.mono ?_
    rintro e w1 ⟨rfl, hx1⟩
    have hX1 := hX.trans hx1
    have n3 := hX1.cell m3
    have n4 := hX1.cell r4
    have bO1 := bO.ext hx1
    obtain ⟨W, hWW⟩ : ∃ W, W = w1.alloc (.cells #[.int .i64 ru.nx, .slice none 0 0] 29) := ⟨_, rfl⟩
    obtain ⟨gc, hgc⟩ : ∃ gc, w1.heap.size = gc := ⟨_, rfl⟩
    have hXW : Ext w1 W := by rw [hWW]; exact Ext.alloc _ _
    have bC : Blk W gc 29 #[.int .i64 ru.nx, .slice none 0 0] := by rw [hWW]; exact Blk.new _ _ _ _ hgc
    have bOW := bO1.ext hXW
    have hgl : g < gc := by rw [← hgc]; exact bO1.lt
    have hXWW := hX1.trans hXW
    have st0 : OwnT (gc + 1) W (.slice none 0 0) ((writeAll c.tapes ru.wr ru.mv).take 0) := ⟨[], World.ownsRow_nil .., TCells.nil _ _⟩
    clear RU hX bO bO1 hx1 hXW
    go_wp2_with fail
    try rw [← hWW]
    try rw [hgc]
    clear hWW n3 n4
    go_loopw [9] (fun u wr => ∃ (k : Nat) (v : Value), k ≤ c.tapes.length ∧ u = .int .i64 (k : Int) ∧ OwnT (gc + 1) wr v ((writeAll c.tapes ru.wr ru.mv).take k) ∧ Ext w wr ∧ Blk wr g 29 #[.int .i64 0, .slice none 0 0] ∧ Blk wr gc 29 #[.int .i64 ru.nx, v] ∧ Hid (((writeAll c.tapes ru.wr ru.mv).take k).all roomT = true)) (fun u _ => c.tapes.length - (intOf u).toNat)
    case atStart => exact ⟨0, _, Nat.zero_le _, rfl, st0, hXWW, bOW, bC, rfl⟩
    case round =>
      clear st0 hXWW bOW bC
      obtain ⟨k, v, hk, rfl, st, hx, bO, bC, HALL⟩ := hrel
      have hwl := writeAll_length c.tapes ru.wr ru.mv
      have hlk : ((writeAll c.tapes ru.wr ru.mv).take k).length = k := by simp [hwl]; omega
      have e1 := hx.cell q1
      by_cases hlt : k < c.tapes.length
      · obtain ⟨b4, o4, vl, vr4, rfl, d0, d1, i1, i2⟩ := (hT.ext hx).at hlt
        obtain ⟨b5, o5, rfl, hc5⟩ := j2.at (k := k) (by omega)
        obtain ⟨b6, o6, rfl, hc6⟩ := j3.at (k := k) (by omega)
        have x2 := (hx.cell (hc5 k (by omega)))
        have x3 := (hx.cell (hc6 k (by omega)))
        have y2 := hx.cell r2
        have y3 := hx.cell r3
        obtain ⟨l1, l2⟩ := HL.out _ (List.getElem_mem hlt)
        have hwk : Hid ((writeAll c.tapes ru.wr ru.mv).take (k + 1) = (writeAll c.tapes ru.wr ru.mv).take k ++ [writeT c.tapes[k] ru.wr[k] ru.mv[k]]) := by
          unfold Hid
          rw [List.take_succ_eq_append_getElem (by omega), writeAll_get c.tapes ru.wr ru.mv k hlt]
          have g2 : ru.wr.getD k 0 = ru.wr[k] := by rw [List.getD_eq_getElem?_getD, List.getElem?_eq_getElem (by omega)]; rfl
          have g3 : ru.mv.getD k 0 = ru.mv[k] := by rw [List.getD_eq_getElem?_getD, List.getElem?_eq_getElem (by omega)]; rfl
          rw [g2, g3]
        have HFALSE : Hid (roomT (writeT c.tapes[k] ru.wr[k] ru.mv[k]) = false → roomM (applyM c (m.rules.getD k0 mr0)) = false) := Lib.hid fun hf => by
          rw [HGD.out]
          show (writeAll c.tapes ru.wr ru.mv).all roomT = false
          rw [List.all_eq_false]
          refine ⟨(writeAll c.tapes ru.wr ru.mv)[k]'(by omega), List.getElem_mem _, ?_⟩
          rw [writeAll_get c.tapes ru.wr ru.mv k hlt]
          have g2 : ru.wr.getD k 0 = ru.wr[k] := by rw [List.getD_eq_getElem?_getD, List.getElem?_eq_getElem (by omega)]; rfl
          have g3 : ru.mv.getD k 0 = ru.mv[k] := by rw [List.getD_eq_getElem?_getD, List.getElem?_eq_getElem (by omega)]; rfl
          rw [g2, g3, hf]
          simp
        have kw : k < ru.wr.length := by omega
        have km : k < ru.mv.length := by omega
        obtain ⟨tk, htk⟩ : ∃ t, c.tapes[k] = t := ⟨_, rfl⟩
        obtain ⟨sk, hsk⟩ : ∃ z, ru.wr[k] = z := ⟨_, rfl⟩
        obtain ⟨mk, hmk⟩ : ∃ z, ru.mv[k] = z := ⟨_, rfl⟩
        rw [htk, hsk, hmk] at hwk HFALSE
        rw [htk] at i1 i2 l1 l2
        rw [hsk] at x2
        rw [hmk] at x3
        have TP := fun W' (he : Ext wr W') => l06Tape_c b4 (o4 + k * 2) tk sk mk W' ⟨_, _, he.cell d0, he.cell d1, i1.ext he, i2.ext he⟩ l1 l2
        obtain ⟨tn, htn⟩ : ∃ t, writeT tk sk mk = t := ⟨_, rfl⟩
        rw [htn] at hwk HFALSE TP
        have HJ2 := Lib.hid j2
        have HJ3 := Lib.hid j3
        clear htk hsk hmk htn i1 i2 d0 d1 hc5 hc6 j2 j3 j1 r0 r1 r4 m3
        go_upto_region 9 with fail
        go_cut [10] (fun p wx => TpNew wr tn p wx)
        case first =>
          have z1 : wr.drew.cell? ⟨bc, 1, none⟩ = _ := e1
          have z2 : wr.drew.cell? ⟨b, off + k0 * 5 + 2, none⟩ = _ := y2
          have z3 : wr.drew.cell? ⟨b, off + k0 * 5 + 3, none⟩ = _ := y3
          have z4 : wr.drew.cell? ⟨b5, o5 + k, none⟩ = _ := x2
          have z5 : wr.drew.cell? ⟨b6, o6 + k, none⟩ = _ := x3
          refine wp_region_ordT 22 (readsT [0, 1, 2, 3, 4, 5, 6, 7, 8, 9, 10, 11, 12, 13, 14, 15, 16, 17, 18, 19] (.fork 20 (.stir 21 .done) 21 (.stir 20 .done))) (by kernel_rfl) (by kernel_rfl) (fun _ _ _ _ _ h => h) ?_
          simp only [readsT]
          iterate 20 (refine wpOrdT_read (v := ?_) (by rfl) (Or.inl ⟨by rfl, fun x hx => ?_⟩) ?_; rotate_left; (· have a1 := hx.cell z1; have a2 := hx.cell z2; have a3 := hx.cell z3; have a4 := hx.cell z4; have a5 := hx.cell z5; go_simp; try with_reducible rfl); try simp only [Act.put, List.setIfInBounds_toArray, List.set_cons_zero, List.set_cons_succ])
          have zD : Ext wr wr.drew := Ext.drew wr
          have hsz : wr.drew.heap.size = wr.heap.size := rfl
          refine wpOrdT_fork (by rfl) (by rfl) (fun K hK => ?_) (fun K hK => ?_)
          · go_simp
            go_at_call 105
            refine (TP wr.drew zD).mono ?_
            rintro e w3 ⟨lv, rv3, rfl, p1, p2, hx3⟩
            obtain ⟨B1, f1, rfl, _, _⟩ := id p1.ints.form
            obtain ⟨B2, f2, rfl, _, _⟩ := id p2.ints.form
            refine hK _ _ hx3 ?_
            clear hK K TP
            try simp only [Act.put, List.setIfInBounds_toArray, List.set_cons_zero, List.set_cons_succ]
            refine wpOrdT_stir (by rfl) (fun K hK => ?_)
            go_simp
            refine hK _ _ (Ext.alloc _ _) ?_
            clear hK K
            try simp only [Act.put, List.setIfInBounds_toArray, List.set_cons_zero, List.set_cons_succ]
            refine wpOrdT_done ?_
            try simp only [List.drop_succ_cons, List.drop_zero]
            have eA := Ext.alloc w3 (.cells #[.slice B1 tn.l.length f1, .slice B2 tn.r.length f2] 50)
            have HN1 : Hid (TpNew wr tn (.pointer (some ⟨w3.heap.size, 0, none⟩)) (w3.alloc (.cells #[.slice B1 tn.l.length f1, .slice B2 tn.r.length f2] 50))) := ⟨(zD.trans hx3).trans eA, _, _, _, rfl, (zD.trans hx3).size, Blk.new _ _ _ _ rfl, OwnInts.ext p1 eA, OwnInts.ext p2 eA⟩
            clear p1 p2 eA z1 z2 z3 z4 z5
            go_wp2_with fail
            go_meet
            exact HN1.out
          · go_simp
            refine hK _ _ (Ext.alloc _ _) ?_
            clear hK K
            try simp only [Act.put, List.setIfInBounds_toArray, List.set_cons_zero, List.set_cons_succ]
            obtain ⟨X, hXX⟩ : ∃ X, X = (wr.alloc (.cells #[.slice none 0 0, .slice none 0 0] 50)).drew := ⟨_, rfl⟩
            obtain ⟨gt, hgt⟩ : ∃ q, wr.heap.size = q := ⟨_, rfl⟩
            have bX : Blk X gt 50 #[.slice none 0 0, .slice none 0 0] := by rw [hXX]; exact (Blk.new _ _ _ _ hgt).drew
            have eX : Ext wr X := by rw [hXX]; exact (Ext.alloc _ _).trans (Ext.drew _)
            try rw [← hXX]
            try rw [hgt]
            refine wpOrdT_stir (by rfl) (fun K hK => ?_)
            go_simp
            go_at_call 105
            rw [← hXX]
            refine (TP X eX).mono ?_
            rintro e w3 ⟨lv, rv3, rfl, p1, p2, hx3⟩
            obtain ⟨B1, f1, rfl, _, _⟩ := id p1.ints.form
            obtain ⟨B2, f2, rfl, _, _⟩ := id p2.ints.form
            refine hK _ _ hx3 ?_
            clear hK K TP
            try simp only [Act.put, List.setIfInBounds_toArray, List.set_cons_zero, List.set_cons_succ]
            refine wpOrdT_done ?_
            try simp only [List.drop_succ_cons, List.drop_zero]
            have b3 := bX.ext hx3
            have ob3 := b3.cell
            have of3 := b3.frozen
            have sX := eX.size
            have n1 : ∀ q, (Value.slice B1 tn.l.length f1).ownBlock = some q → q ≠ gt := fun q hq e => by
              subst e
              exact blk_ne_row b3 p1 (by decide) hq.symm
            have n2 : ∀ q, (Value.slice B2 tn.r.length f2).ownBlock = some q → q ≠ gt := fun q hq e => by
              subst e
              exact blk_ne_row b3 p2 (by decide) hq.symm
            have HN1 : Hid (TpNew wr tn (.pointer (some ⟨gt, 0, none⟩)) ((w3.setCell ⟨gt, 0, none⟩ (.slice B1 tn.l.length f1)).setCell ⟨gt, 1, none⟩ (.slice B2 tn.r.length f2))) := by
              refine ⟨(((eX.trans hx3).setCell (p := ⟨gt, 0, none⟩) (by show wr.heap.size ≤ gt; omega) _).setCell (p := ⟨gt, 1, none⟩) (by show wr.heap.size ≤ gt; omega) _), gt, _, _, rfl, by omega, (b3.set_ 0 _).set_ 1 _, ?_, ?_⟩
              · exact ownsRow_far (ownsRow_far (ownsRow_base p1 sX) n1 _) n1 _
              · exact ownsRow_far (ownsRow_far (ownsRow_base p2 sX) n2 _) n2 _
            have q0' := ob3 0
            have q1' := ob3 1
            have s0' := of3 0
            have s1' := of3 1
            simp only [List.getElem?_toArray, List.getElem?_cons_zero, List.getElem?_cons_succ] at q0' q1'
            clear p1 p2 n1 n2 z1 z2 z3 z4 z5 ob3 of3 hXX
            go_wp2_with fail
            go_meet
            exact HN1.out
        case rest =>
          rename World => wc
          obtain ⟨hxc, gt, lv, rv3, rfl, hgt, bT, p1, p2⟩ := hcut
          obtain ⟨B1, f1, rfl, _, _⟩ := id p1.ints.form
          obtain ⟨B2, f2, rfl, _, _⟩ := id p2.ints.form
          have b0 := bT.cell 0
          have b1' := bT.cell 1
          simp only [List.getElem?_toArray, List.getElem?_cons_zero, List.getElem?_cons_succ] at b0 b1'
          have hXc := hx.trans hxc
          have bOc := bO.ext hxc
          have bCc := bC.ext hxc
          have ob := bOc.cell
          have of_ := bOc.frozen
          have HE : Hid (∀ a b, Ext w ((wc.setCell ⟨g, 0, none⟩ a).setCell ⟨g, 1, none⟩ b)) := Lib.hid fun a b => (hXc.setCell (p := ⟨g, 0, none⟩) (by show w.heap.size ≤ g; omega) a).setCell (p := ⟨g, 1, none⟩) (by show w.heap.size ≤ g; omega) b
          have HRM : Hid (roomT tn = (decide (tn.l.length ≤ 200) && decide (tn.r.length ≤ 200))) := rfl
          clear TP hT x2 x3 y2 y3 e1
          by_cases n1 : tn.l.length ≤ 200
          · have i1 : ¬ (200 : Int) < (tn.l.length : Int) := by omega
            by_cases n2 : tn.r.length ≤ 200
            · have i2 : ¬ (200 : Int) < (tn.r.length : Int) := by omega
              have HRT : Hid (roomT tn = true) := Lib.hid (by rw [HRM.out, decide_eq_true n1, decide_eq_true n2]; rfl)
              have HALL2 : Hid (((writeAll c.tapes ru.wr ru.mv).take (k + 1)).all roomT = true) := Lib.hid (by rw [hwk.out, List.all_append, HALL.out]; simp [HRT.out])
              obtain ⟨cl, ho1, hcl⟩ := st
              rw [hlk] at ho1
              obtain ⟨Av, cv, rfl, _, _, _⟩ := (ownsRow_row ho1).form
              have z1 := bCc.cell 1
              simp only [List.getElem?_toArray, List.getElem?_cons_zero, List.getElem?_cons_succ] at z1
              have hsz := hx.size
              have hgcw : gc < wr.heap.size := bC.lt
              obtain ⟨W6, hW6⟩ : ∃ W6, W6 = wc.alloc (.cells #[.slice B1 tn.l.length f1, .slice B2 tn.r.length f2] 50) := ⟨_, rfl⟩
              have eA : Ext wc W6 := by rw [hW6]; exact Ext.alloc _ _
              have bN : Blk W6 wc.heap.size 50 #[.slice B1 tn.l.length f1, .slice B2 tn.r.length f2] := by rw [hW6]; exact Blk.new _ _ _ _ rfl
              have hXr : Ext wr W6 := hxc.trans eA
              have ho6 := ownsRow_ext ho1 hXr
              have sXr := hXr.size
              have hNL : TCells (gc + 1) W6 (cl ++ [.slice B1 tn.l.length f1, .slice B2 tn.r.length f2]) ((writeAll c.tapes ru.wr ru.mv).take k ++ [tn]) :=
                (hcl.ext hXr).snoc (ownsRow_base (OwnInts.ext p1 eA) (by omega)) (ownsRow_base (OwnInts.ext p2 eA) (by omega))
              have hs6 : gc + 1 ≤ W6.heap.size := by omega
              have HLK2 := Lib.hid hlk
              clear hlk HRM HFALSE HRT
              generalize tn.l.length = n1' at *
              generalize tn.r.length = n2' at *
              go_wp2_with (at_builtin; rw [← hW6]; refine wpList_append_own_at _ rfl _ _ 27 rfl (gc + 1) 50 i0 (.agg #[.slice none 0 0, .slice none 0 0]) 2 48 Tryz.underlying27 hi0 hz0 hz1 hz2 rfl (by decide) _ _ cl rfl ho6 ⟨wc.heap.size, 0, none⟩ 1 1 [.slice B1 n1' f1, .slice B2 n2' f2] rfl rfl (World.news_of_block bN) ?c2 ?c3 ?c4 ?c5 ?_)
              case c2 => first | exact ⟨rfl, rfl⟩ | (intro u hu; simp at hu; rcases hu with rfl | rfl <;> rfl)
              case c3 => unfold maxLen; omega
              case c4 => omega
              case c5 => first | exact hs6 | (have := hxc.size; omega)
              intro v' w7 hown7 hg7 _ _
              have hg7' : W6.grownBy w7 (Value.slice Av k cv).ownBlock := by first | exact hg7 | (rw [hW6]; exact hg7)
              have HS : OwnT (gc + 1) w7 v' ((writeAll c.tapes ru.wr ru.mv).take (k + 1)) := by
                rw [hwk.out]
                refine ⟨_, ?_, hNL.same fun q cs hq => hg7'.block q hq.lt (blk_ne_row hq ho6 (by decide))⟩
                have : ((writeAll c.tapes ru.wr ru.mv).take k ++ [tn]).length = k + 1 := by simp [HLK2.out]
                rw [this]
                exact hown7
              obtain ⟨A7, c7, rfl, _, _, _⟩ := (ownsRow_row hown7).form
              have bO7 := Blk.apart (bOc.ext eA) ho6 (by decide) hg7'
              have bC7 := Blk.apart (bCc.ext eA) ho6 (by decide) hg7'
              have hx7 : Ext w w7 := (hXc.trans eA).grown hg7' (fun q hq => by have := (ho6.lt q hq).1; omega)
              have q3' := bC7.cell 1
              have qf := bC7.frozen 1
              simp only [List.getElem?_toArray, List.getElem?_cons_zero, List.getElem?_cons_succ] at q3'
              have HS' := Lib.hid (HS.far bC7 (by decide) (by decide) 1 (.slice A7 (k + 1) c7))
              have HX := Lib.hid (hx7.setCell (p := ⟨gc, 1, none⟩) (by show w.heap.size ≤ gc; omega) (.slice A7 (k + 1) c7))
              have HO := Lib.hid (bO7.far (p := ⟨gc, 1, none⟩) (by show g ≠ gc; omega) (.slice A7 (k + 1) c7))
              have HC := Lib.hid (bC7.set_ 1 (.slice A7 (k + 1) c7))
              clear hW6 eA bN hXr ho6 hNL hown7 hg7 hg7' p1 p2 hx ho1 hcl HS bO bC bO7 bC7 hx7 bOc bCc hxc hXc ob of_ bT HE
              go_wp2_with fail
              go_roundw
              case rel => exact ⟨k + 1, _, by omega, by go_num, HS'.out, HX.out, HO.out, HC.out, HALL2.out⟩
              case measure => simp [intOf]; omega
            · have i2 : (200 : Int) < (tn.r.length : Int) := by omega
              have HF := Lib.hid (HFALSE.out (by rw [HRM.out, decide_eq_false n2, Bool.and_false]))
              clear st hwl hlk
              go_wp2_with fail
              exact bodyPost_ret (v := .tuple #[.agg #[.int .i64 0, .slice none 0 0], .int .i64 5]) (by simp [results, Tryz.results77, go_sem, ob]) rfl ⟨.inr (.inl ⟨k0, HLK.out, HF.out, rfl⟩), HE.out _ _⟩
          · have i1 : (200 : Int) < (tn.l.length : Int) := by omega
            have HF := Lib.hid (HFALSE.out (by rw [HRM.out, decide_eq_false n1, Bool.false_and]))
            clear st hwl hlk
            go_wp2_with fail
            exact bodyPost_ret (v := .tuple #[.agg #[.int .i64 0, .slice none 0 0], .int .i64 5]) (by simp [results, Tryz.results77, go_sem, ob]) rfl ⟨.inr (.inl ⟨k0, HLK.out, HF.out, rfl⟩), HE.out _ _⟩
      · obtain rfl : k = c.tapes.length := by omega
        have hq0 := bC.cell 0
        have hq1 := bC.cell 1
        simp only [List.getElem?_toArray, List.getElem?_cons_zero, List.getElem?_cons_succ] at hq0 hq1
        obtain ⟨Av, cv, rfl, _, _⟩ := st.form
        rw [hlk] at hq1 st bC
        have htk : (writeAll c.tapes ru.wr ru.mv).take c.tapes.length = writeAll c.tapes ru.wr ru.mv := List.take_of_length_le (by rw [hwl]; exact Nat.le_refl _)
        rw [htk] at st HALL
        have HR : Hid (roomM (applyM c (m.rules.getD k0 mr0)) = true) := Lib.hid (by rw [HGD.out]; exact HALL.out)
        have hne : gc ≠ g := by omega
        have ob := bO.cell
        have of_ := bO.frozen
        have HT : Hid (∀ a b, OwnT w.heap.size ((wr.setCell ⟨g, 0, none⟩ a).setCell ⟨g, 1, none⟩ b) (.slice Av c.tapes.length cv) (applyM c (m.rules.getD k0 mr0)).tapes) := Lib.hid fun a b => by
          rw [HGD.out]
          have h1 := (st.far bO (by decide) (by decide) 0 a).far (bO.set_ 0 a) (by decide) (by decide) 1 b
          obtain ⟨cl, p1, p2⟩ := h1
          exact ⟨cl, ownsRow_base p1 (by omega), p2.1, fun i hi => by
            obtain ⟨x, y, c0, c1, o1, o2⟩ := p2.2 i hi
            exact ⟨x, y, c0, c1, ownsRow_base o1 (by omega), ownsRow_base o2 (by omega)⟩⟩
        have HE : Hid (∀ a b, Ext w ((wr.setCell ⟨g, 0, none⟩ a).setCell ⟨g, 1, none⟩ b)) := Lib.hid fun a b => (hx.setCell (p := ⟨g, 0, none⟩) (by show w.heap.size ≤ g; omega) a).setCell (p := ⟨g, 1, none⟩) (by show w.heap.size ≤ g; omega) b
        have HQ : Hid ((applyM c (m.rules.getD k0 mr0)).q = ru.nx) := Lib.hid (by rw [HGD.out]; rfl)
        clear st hlk htk bC bO
        go_wp2_with fail
        exact bodyPost_ret (v := .tuple #[.agg #[.int .i64 ru.nx, .slice Av c.tapes.length cv], .int .i64 0]) (by simp [results, Tryz.results77, go_sem, ob]) rfl ⟨.inr (.inr ⟨k0, Av, cv, HLK.out, HR.out, by rw [HQ.out], HT.out _ _⟩), HE.out _ _⟩
end Go.Proofs.YtkbpchdncljlbaaGreatDoor
end
section
set_option linter.unusedVariables false
set_option linter.unusedSimpArgs false
namespace Go.Proofs.YtkbpchdncljlbaaGreatDoor
open Go Go.RowKit Go.Proofs Go.Maps
set_option maxHeartbeats 400000
theorem OwnT.low {base base' : Nat} {w : World} {v : Value} {ts : List TapeD} (h : OwnT base w v ts) (hb : base' ≤ base) : OwnT base' w v ts := by
  obtain ⟨cl, p1, p2⟩ := h
  exact ⟨cl, ownsRow_base p1 hb, p2.1, fun i hi => by
    obtain ⟨x, y, c0, c1, o1, o2⟩ := p2.2 i hi
    exact ⟨x, y, c0, c1, ownsRow_base o1 hb, ownsRow_base o2 hb⟩⟩
set_option maxRecDepth 20000 in
set_option maxHeartbeats 4000000 in
theorem l06Own_c (bc : Nat) (c : MConfD) (tv : Value) (w : World) (q0 : w.cell? ⟨bc, 0, none⟩ = some (.int .i64 c.q)) (q1 : w.cell? ⟨bc, 1, none⟩ = some tv) (hT : Tapes w tv c.tapes) (hn : c.tapes.length ≤ 1000) (hL : ∀ t ∈ c.tapes, t.l.length ≤ 1000 ∧ t.r.length ≤ 1000) :
    Calls Tryz.prog 75 #[.pointer (some ⟨bc, 0, none⟩)] w fun e w' => (∃ A cap, e = .returned (.agg #[.int .i64 c.q, .slice A c.tapes.length cap]) ∧ OwnT w.heap.size w' (.slice A c.tapes.length cap) c.tapes) ∧ Ext w w' := by
  obtain ⟨i0, hi0, hz0, hz1, hz2⟩ := info_parts tapeInfoS
  obtain ⟨A, ct, rfl, ht1, ht2⟩ := hT.form
  have hbl := World.block_lt_of_cell? w _ q0
  simp only at hbl
  obtain ⟨g, hg⟩ : ∃ g, w.heap.size = g := ⟨_, rfl⟩
  rw [hg] at hbl
  obtain ⟨V, hV⟩ : ∃ V, V = (w.alloc (.cells #[.int .i64 0, .slice none 0 0] 29)).alloc (.cells #[.int .i64 c.q, .slice none 0 0] 29) := ⟨_, rfl⟩
  have hX : Ext w V := by rw [hV]; exact (Ext.alloc _ _).trans (Ext.alloc _ _)
  have bO : Blk V g 29 #[.int .i64 0, .slice none 0 0] := by rw [hV]; exact (Blk.new _ _ _ _ hg).alloc _
  have bC : Blk V (g + 1) 29 #[.int .i64 c.q, .slice none 0 0] := by rw [hV]; exact Blk.new _ _ _ _ (by simp [hg])
  have d0 := (show Ext w (w.alloc (.cells #[.int .i64 0, .slice none 0 0] 29)) from Ext.alloc _ _).cell q0
  have st0 : OwnT (g + 1 + 1) V (.slice none 0 0) (c.tapes.take 0) := ⟨[], World.ownsRow_nil .., TCells.nil _ _⟩
  have HL := Lib.hid hL
  clear hL
  go_enter Tryz.func75, Tryz.ntmps75
  go_wp2_with fail
  try rw [← hV]
  try rw [hg]
  clear hV d0
  go_loopw [4] (fun u wr => ∃ (k : Nat) (v : Value), k ≤ c.tapes.length ∧ u = .int .i64 (k : Int) ∧ OwnT (g + 1 + 1) wr v (c.tapes.take k) ∧ Ext w wr ∧ Blk wr g 29 #[.int .i64 0, .slice none 0 0] ∧ Blk wr (g + 1) 29 #[.int .i64 c.q, v]) (fun u _ => c.tapes.length - (intOf u).toNat)
  case atStart => exact ⟨0, _, Nat.zero_le _, rfl, st0, hX, bO, bC⟩
  case round =>
    clear st0 hX bO bC
    obtain ⟨k, v, hk, rfl, st, hx, bO, bC⟩ := hrel
    have e1 := hx.cell q1
    by_cases hlt : k < c.tapes.length
    · obtain ⟨b4, o4, vl, vr4, rfl, d0, d1, i1, i2⟩ := (hT.ext hx).at hlt
      obtain ⟨l1, l2⟩ := HL.out _ (List.getElem_mem hlt)
      have hwk : Hid (c.tapes.take (k + 1) = c.tapes.take k ++ [c.tapes[k]]) := Lib.hid (List.take_succ_eq_append_getElem hlt)
      obtain ⟨tn, htk⟩ : ∃ t, c.tapes[k] = t := ⟨_, rfl⟩
      rw [htk] at hwk i1 i2 l1 l2
      obtain ⟨B1, f1, rfl, _, _⟩ := id i1.form
      obtain ⟨B2, f2, rfl, _, _⟩ := id i2.form
      have c1 := bC.cell 1
      simp only [List.getElem?_toArray, List.getElem?_cons_zero, List.getElem?_cons_succ] at c1
      obtain ⟨cl, ho1, hcl⟩ := st
      have hlk : (c.tapes.take k).length = k := by simp; omega
      rw [hlk] at ho1
      obtain ⟨Av, cv, rfl, _, _, _⟩ := (ownsRow_row ho1).form
      have zD : Ext wr wr.drew := Ext.drew wr
      have z1 := zD.cell e1
      have z2 := zD.cell d0
      have z3 := zD.cell d1
      have z4 := zD.cell c1
      have hsz := hx.size
      have hgw := bC.lt
      have OW1 := l00OwnA_c _ tn.l wr.drew (i1.ext zD) (by omega)
      have HLK := Lib.hid hlk
      clear htk d0 d1 hlk
      go_wp2_with fail
      refine wp_region_ordT 22 (readsT [0, 1, 2, 3, 4, 5, 6, 7, 8, 9, 11, 12, 13, 14, 15, 16, 17, 18] (.stir 10 (.stir 19 (readsT [20] (.stir 21 .done))))) (by kernel_rfl) (by kernel_rfl) (fun _ _ _ _ _ h => h) ?_
      simp only [readsT]
      iterate 18 (refine wpOrdT_read (v := ?_) (by rfl) (Or.inl ⟨by rfl, fun x hx => ?_⟩) ?_; rotate_left; (· have a1 := hx.cell z1; have a2 := hx.cell z2; have a3 := hx.cell z3; have a4 := hx.cell z4; go_simp; try with_reducible rfl); try simp only [Act.put, List.setIfInBounds_toArray, List.set_cons_zero, List.set_cons_succ])
      refine wpOrdT_stir (by rfl) (fun K hK => ?_)
      go_simp
      go_at_call 81
      refine OW1.mono ?_
      rintro e w3 ⟨u1, rfl, p1, hx3⟩
      obtain ⟨C1, e1', rfl, _, _⟩ := id p1.ints.form
      refine hK _ _ hx3 ?_
      clear hK K OW1
      try simp only [Act.put, List.setIfInBounds_toArray, List.set_cons_zero, List.set_cons_succ]
      refine wpOrdT_stir (by rfl) (fun K hK => ?_)
      go_simp
      go_at_call 81
      refine (l00OwnA_c _ tn.r w3 (i2.ext (zD.trans hx3)) (by omega)).mono ?_
      rintro e w4 ⟨u2, rfl, p2, hx4⟩
      obtain ⟨C2, e2', rfl, _, _⟩ := id p2.ints.form
      refine hK _ _ hx4 ?_
      clear hK K
      try simp only [Act.put, List.setIfInBounds_toArray, List.set_cons_zero, List.set_cons_succ]
      refine wpOrdT_read (v := ?_) (by rfl) (Or.inl ⟨by rfl, fun x hx => ?_⟩) ?_
      rotate_left
      · go_simp; try with_reducible rfl
      try simp only [Act.put, List.setIfInBounds_toArray, List.set_cons_zero, List.set_cons_succ]
      refine wpOrdT_stir (by rfl) (fun K hK => ?_)
      go_simp
      have eA := Ext.alloc w4 (.cells #[.slice C1 tn.l.length e1', .slice C2 tn.r.length e2'] 50)
      refine hK _ _ eA ?_
      clear hK K
      try simp only [Act.put, List.setIfInBounds_toArray, List.set_cons_zero, List.set_cons_succ]
      refine wpOrdT_done ?_
      try simp only [List.drop_succ_cons, List.drop_zero]
      obtain ⟨W6, hW6⟩ : ∃ W6, W6 = w4.alloc (.cells #[.slice C1 tn.l.length e1', .slice C2 tn.r.length e2'] 50) := ⟨_, rfl⟩
      rw [← hW6] at eA
      have bN : Blk W6 w4.heap.size 50 #[.slice C1 tn.l.length e1', .slice C2 tn.r.length e2'] := by rw [hW6]; exact Blk.new _ _ _ _ rfl
      have hXr : Ext wr W6 := ((zD.trans hx3).trans hx4).trans eA
      have ho6 := ownsRow_ext ho1 hXr
      have sXr := hXr.size
      have s3 := (zD.trans hx3).size
      have s0 := zD.size
      have hNL : TCells (g + 1 + 1) W6 (cl ++ [.slice C1 tn.l.length e1', .slice C2 tn.r.length e2']) (c.tapes.take k ++ [tn]) :=
        (hcl.ext hXr).snoc (ownsRow_base (OwnInts.ext p1 (hx4.trans eA)) (by omega)) (ownsRow_base (OwnInts.ext p2 eA) (by omega))
      have hs6 : g + 1 + 1 ≤ W6.heap.size := by omega
      have bO6 := bO.ext hXr
      have bC6 := bC.ext hXr
      have hX6 := hx.trans hXr
      clear p1 p2 i1 i2 z1 z2 z3 z4 c1 hcl ho1 hx3 hx4 zD e1
      generalize tn.l.length = n1' at *
      generalize tn.r.length = n2' at *
      go_wp2_with (at_builtin; rw [← hW6]; refine wpList_append_own_at _ rfl _ _ 27 rfl (g + 1 + 1) 50 i0 (.agg #[.slice none 0 0, .slice none 0 0]) 2 48 Tryz.underlying27 hi0 hz0 hz1 hz2 rfl (by decide) _ _ cl rfl ho6 ⟨w4.heap.size, 0, none⟩ 1 1 [.slice C1 n1' e1', .slice C2 n2' e2'] rfl rfl (World.news_of_block bN) ?c2 ?c3 ?c4 ?c5 ?_)
      case c2 => first | exact ⟨rfl, rfl⟩ | (intro u hu; simp at hu; rcases hu with rfl | rfl <;> rfl)
      case c3 => unfold maxLen; omega
      case c4 => omega
      case c5 => exact hs6
      intro v' w7 hown7 hg7 _ _
      have hg7' : W6.grownBy w7 (Value.slice Av k cv).ownBlock := by first | exact hg7 | (rw [hW6]; exact hg7)
      have HS : OwnT (g + 1 + 1) w7 v' (c.tapes.take (k + 1)) := by
        rw [hwk.out]
        refine ⟨_, ?_, hNL.same fun q cs hq => hg7'.block q hq.lt (blk_ne_row hq ho6 (by decide))⟩
        have : (c.tapes.take k ++ [tn]).length = k + 1 := by rw [List.length_append, HLK.out]; rfl
        rw [this]
        exact hown7
      obtain ⟨A7, c7, rfl, _, _, _⟩ := (ownsRow_row hown7).form
      have bO7 := Blk.apart bO6 ho6 (by decide) hg7'
      have bC7 := Blk.apart bC6 ho6 (by decide) hg7'
      have hx7 : Ext w w7 := hX6.grown hg7' (fun q hq => by have := (ho6.lt q hq).1; omega)
      have q3' := bC7.cell 1
      have qf := bC7.frozen 1
      simp only [List.getElem?_toArray, List.getElem?_cons_zero, List.getElem?_cons_succ] at q3'
      have HS' := Lib.hid (HS.far bC7 (by decide) (by decide) 1 (.slice A7 (k + 1) c7))
      have HX := Lib.hid (hx7.setCell (p := ⟨g + 1, 1, none⟩) (by show w.heap.size ≤ g + 1; omega) (.slice A7 (k + 1) c7))
      have HO := Lib.hid (bO7.far (p := ⟨g + 1, 1, none⟩) (by show g ≠ g + 1; omega) (.slice A7 (k + 1) c7))
      have HC := Lib.hid (bC7.set_ 1 (.slice A7 (k + 1) c7))
      clear hW6 eA bN hXr ho6 hNL hown7 hg7 hg7' hx HS bO bC bO6 bC6 bO7 bC7 hx7 hX6
      go_wp2_with fail
      go_roundw
      case rel => exact ⟨k + 1, _, by omega, by go_num, HS'.out, HX.out, HO.out, HC.out⟩
      case measure => simp [intOf]; omega
    · obtain rfl : k = c.tapes.length := by omega
      have hq0 := bC.cell 0
      have hq1 := bC.cell 1
      simp only [List.getElem?_toArray, List.getElem?_cons_zero, List.getElem?_cons_succ] at hq0 hq1
      rw [List.take_length] at st
      obtain ⟨Av, cv, rfl, _, _⟩ := st.form
      have hsz := hx.size
      have ob := bO.cell
      have of_ := bO.frozen
      have HT : Hid (∀ a b, OwnT w.heap.size ((wr.setCell ⟨g, 0, none⟩ a).setCell ⟨g, 1, none⟩ b) (.slice Av c.tapes.length cv) c.tapes) := Lib.hid fun a b =>
        ((st.far bO (by decide) (by decide) 0 a).far (bO.set_ 0 a) (by decide) (by decide) 1 b).low (by omega)
      have HE : Hid (∀ a b, Ext w ((wr.setCell ⟨g, 0, none⟩ a).setCell ⟨g, 1, none⟩ b)) := Lib.hid fun a b => (hx.setCell (p := ⟨g, 0, none⟩) (by show w.heap.size ≤ g; omega) a).setCell (p := ⟨g, 1, none⟩) (by show w.heap.size ≤ g; omega) b
      clear st bC bO
      generalize hNN : c.tapes.length = nn at *
      have HNN := Lib.hid hNN
      clear hNN
      go_wp2_with fail
      exact bodyPost_ret (v := .agg #[.int .i64 c.q, .slice Av nn cv]) (by simp [results, Tryz.results75, go_sem, ob]) rfl ⟨⟨Av, cv, by rw [HNN.out], by rw [HNN.out]; exact HT.out _ _⟩, HE.out _ _⟩
end Go.Proofs.YtkbpchdncljlbaaGreatDoor
end
