/- Contract of the reference's step of a configuration with several tapes.
Contract of the reference's configuration with several tapes for one of the machine with one tape.
Contracts of the reference's order of rules and of its test of a machine with several tapes. No condition. -/
import Derived.Test.YtfghojbbofobeaaP23
import Derived.Test.YtfghojbbofobeaaP29
import Derived.Test.YtfghojbbofobeaaP20
import Derived.Test.YtfghojbbofobeaaP19
import Derived.Test.YtfghojbbofobeaaP13
import Derived.Test.YtfghojbbofobeaaP28
import Derived.Test.YtfghojbbofobeaaP27
import Derived.Test.YtfghojbbofobeaaP16
import Derived.Test.YtfghojbbofobeaaP12
section
set_option linter.unusedVariables false
set_option linter.unusedSimpArgs false
namespace Go.Proofs.Ytfghojbbofobeaa
open Go Go.RowKit Go.Proofs Go.Maps
set_option maxHeartbeats 400000
/-- The cells of tapes, whose sides are rows of their own. -/
def TCells (base : Nat) (w : World) (cl : List Value) (ts : List TapeD) : Prop :=
  cl.length = ts.length * 2 ∧ ∀ i, (h : i < ts.length) → ∃ lv rv, cl[i * 2]? = some lv ∧ cl[i * 2 + 1]? = some rv ∧ OwnInts base w lv ts[i].l ∧ OwnInts base w rv ts[i].r
theorem TCells.nil (base : Nat) (w : World) : TCells base w [] [] := ⟨rfl, fun i h => by simp at h⟩
theorem TCells.snoc {base : Nat} {w : World} {cl : List Value} {ts : List TapeD} {t : TapeD} {lv rv : Value} (h : TCells base w cl ts) (h1 : OwnInts base w lv t.l) (h2 : OwnInts base w rv t.r) : TCells base w (cl ++ [lv, rv]) (ts ++ [t]) := by
  obtain ⟨a, b⟩ := h
  refine ⟨by simp [a]; omega, fun i hi => ?_⟩
  by_cases hlt : i < ts.length
  · obtain ⟨x, y, c0, c1, o⟩ := b i hlt
    refine ⟨x, y, by rw [List.getElem?_append_left (by omega), c0], by rw [List.getElem?_append_left (by omega), c1], ?_⟩
    rw [List.getElem_append_left hlt]
    exact o
  · obtain rfl : i = ts.length := by simp at hi; omega
    refine ⟨lv, rv, by rw [List.getElem?_append_right (by omega)]; simp [a], by rw [List.getElem?_append_right (by omega)]; simp [a], ?_⟩
    rw [List.getElem_append_right (by omega)]
    simpa using ⟨h1, h2⟩
theorem TCells.ext {base : Nat} {w w' : World} {cl : List Value} {ts : List TapeD} (h : TCells base w cl ts) (he : Ext w w') : TCells base w' cl ts :=
  ⟨h.1, fun i hi => by
    obtain ⟨x, y, c0, c1, o1, o2⟩ := h.2 i hi
    exact ⟨x, y, c0, c1, OwnInts.ext o1 he, OwnInts.ext o2 he⟩⟩
theorem TCells.same {base : Nat} {w w' : World} {cl : List Value} {ts : List TapeD} (h : TCells base w cl ts) (hs : ∀ g cs, Blk w g 2 cs → w'.heap[g]? = w.heap[g]?) : TCells base w' cl ts := by
  have hi : ∀ {u : Value} {zs : List Int}, OwnInts base w u zs → OwnInts base w' u zs := fun {u zs} o => own_same o (fun g hg => by
    rcases o.2 with ⟨rfl, _⟩ | ⟨g', cap, cur, rfl, _, hh, _⟩
    · simp [Value.ownBlock] at hg
    · simp [Value.ownBlock] at hg
      subst hg
      exact hs _ _ hh)
  refine ⟨h.1, fun i hi' => ?_⟩
  obtain ⟨x, y, c0, c1, o1, o2⟩ := h.2 i hi'
  exact ⟨x, y, c0, c1, hi o1, hi o2⟩
theorem TCells.keepB {base : Nat} {w w' : World} {cl : List Value} {ts : List TapeD} (h : TCells base w cl ts) (hk : KeepB base w w') : TCells base w' cl ts :=
  ⟨h.1, fun i hi => by
    obtain ⟨x, y, c0, c1, o1, o2⟩ := h.2 i hi
    exact ⟨x, y, c0, c1, ownsRow_keepB o1 hk, ownsRow_keepB o2 hk⟩⟩
/-- Tapes in a row of their own. -/
def OwnT (base : Nat) (w : World) (v : Value) (ts : List TapeD) : Prop := ∃ cl, w.ownsRow base 93 2 v ts.length cl ∧ TCells base w cl ts
theorem OwnT.ext {base : Nat} {w w' : World} {v : Value} {ts : List TapeD} (h : OwnT base w v ts) (he : Ext w w') : OwnT base w' v ts := by
  obtain ⟨cl, a, b⟩ := h
  exact ⟨cl, ownsRow_ext a he, b.ext he⟩
theorem OwnT.keepB {base : Nat} {w w' : World} {v : Value} {ts : List TapeD} (h : OwnT base w v ts) (hk : KeepB base w w') : OwnT base w' v ts := by
  obtain ⟨cl, a, b⟩ := h
  exact ⟨cl, ownsRow_keepB a hk, b.keepB hk⟩
theorem OwnT.form {base : Nat} {w : World} {v : Value} {ts : List TapeD} (h : OwnT base w v ts) : ∃ A c, v = .slice A ts.length c ∧ ts.length ≤ c ∧ c ≤ 9223372036854775807 := by
  obtain ⟨cl, h1, h2⟩ := h
  obtain ⟨A, c, e, a, b, _⟩ := (ownsRow_row h1).form
  exact ⟨A, c, e, a, b⟩
theorem OwnT.far {base : Nat} {w : World} {v : Value} {ts : List TapeD} (h : OwnT base w v ts) {g : Nat} {t : TypeId} {cs : Array Value} (hb : Blk w g t cs) (h1 : t ≠ 93) (h2 : t ≠ 2) (i : Nat) (u : Value) : OwnT base (w.setCell ⟨g, i, none⟩ u) v ts := by
  obtain ⟨cl, ho, hc⟩ := h
  exact ⟨cl, own_kept ho (grownBy_setCell w ⟨g, i, none⟩ u) (blk_ne_row hb ho h1), hc.same fun q cs' hq => Below.heap_setCell w _ u q (by exact blk_ne hq hb (fun e => h2 e.symm))⟩
theorem OwnT.tapes {base : Nat} {w : World} {v : Value} {ts : List TapeD} (h : OwnT base w v ts) : Tapes w v ts := by
  obtain ⟨cl, h1, h2⟩ := h
  obtain ⟨A, c, rfl, a, b, hr⟩ := ownsRow_row h1
  refine ⟨A, c, rfl, a, b, fun hn => ?_⟩
  obtain ⟨g, off, rfl, hc⟩ := hr.2 hn
  refine ⟨g, off, rfl, fun i hi => ?_⟩
  obtain ⟨x, y, c0, c1, o1, o2⟩ := h2.2 i hi
  have hl := h2.1
  exact ⟨x, y, (hc _ (by omega)).trans c0, by rw [Nat.add_assoc]; exact (hc _ (by omega)).trans c1, o1.ints, o2.ints⟩
theorem tapeInfoS : (Try.prog.info? 93).map (fun i => (i.zero, i.size, i.bytes)) = some (some (.agg #[.slice none 0 0, .slice none 0 0]), 2, 48) := by kernel_rfl
/-- What a step of the reference gives. -/
def StepRS (m : MultiD) (c : MConfD) (base : Nat) (e : Ending) (w' : World) : Prop :=
  (lookM m.rules c = none ∧ e = .returned (.tuple #[.agg #[.int .i64 0, .slice none 0 0], .int .i64 6])) ∨
  (∃ k, lookM m.rules c = some k ∧ roomM (applyM c (m.rules.getD k mr0)) = false ∧ e = .returned (.tuple #[.agg #[.int .i64 0, .slice none 0 0], .int .i64 5])) ∨
  (∃ k A cap, lookM m.rules c = some k ∧ roomM (applyM c (m.rules.getD k mr0)) = true ∧ e = .returned (.tuple #[.agg #[.int .i64 (applyM c (m.rules.getD k mr0)).q, .slice A c.tapes.length cap], .int .i64 0]) ∧ OwnT base w' (.slice A c.tapes.length cap) (applyM c (m.rules.getD k mr0)).tapes)
/-- A tape that the reference has just made. -/
structure TpNew (w : World) (t : TapeD) (p : Value) (wx : World) : Prop where
  ext : Ext w wx
  at_ : ∃ gt lv rv, p = .pointer (some ⟨gt, 0, none⟩) ∧ w.heap.size ≤ gt ∧ Blk wx gt 93 #[lv, rv] ∧ OwnInts w.heap.size wx lv t.l ∧ OwnInts w.heap.size wx rv t.r
end Go.Proofs.Ytfghojbbofobeaa
end
section
set_option linter.unusedSimpArgs false
set_option linter.unusedVariables false
namespace Go.Proofs.Ytfghojbbofobeaa
open Go Go.RowKit Go.Proofs Go.Maps
set_option maxHeartbeats 400000
/-- The reference's result. -/
def DecResS (w : World) (r : MConfD × Int) (e : Ending) (w' : World) : Prop :=
  ∃ v, e = .returned (.tuple #[.agg #[.int .i64 r.1.q, v], .int .i64 r.2]) ∧ OwnT w.heap.size w' v r.1.tapes ∧ Ext w w'
theorem OwnT.void (base : Nat) (w : World) : OwnT base w (.slice none 0 0) [] := ⟨[], World.ownsRow_nil .., TCells.nil _ _⟩
theorem OwnT.base {base base' : Nat} {w : World} {v : Value} {ts : List TapeD} (h : OwnT base w v ts) (hb : base' ≤ base) : OwnT base' w v ts := by
  obtain ⟨cl, h1, h2, h3⟩ := h
  exact ⟨cl, ownsRow_base h1 hb, h2, fun i hi => by
    obtain ⟨x, y, c0, c1, o1, o2⟩ := h3 i hi
    exact ⟨x, y, c0, c1, ownsRow_base o1 hb, ownsRow_base o2 hb⟩⟩
theorem DecResS.fail {w w1 : World} {k : Int} {b : Nat} (hb : w.heap.size ≤ b) (hX : Ext w w1) (x y : Value) :
    DecResS w (⟨0, []⟩, k) (.returned (.tuple #[.agg #[.int .i64 0, .slice none 0 0], .int .i64 k])) ((w1.setCell ⟨b, 0, none⟩ x).setCell ⟨b, 1, none⟩ y) :=
  ⟨_, rfl, OwnT.void _ _, (hX.setCell hb _).setCell hb _⟩
theorem DecResS.done {w w1 : World} {q k : Int} {ts : List TapeD} {v : Value} {b base : Nat} {cs : Array Value} (hb : w.heap.size ≤ b) (hX : Ext w w1) (h : OwnT base w1 v ts) (hbb : w.heap.size ≤ base) (hB : Blk w1 b 32 cs) (x y : Value) :
    DecResS w (⟨q, ts⟩, k) (.returned (.tuple #[.agg #[.int .i64 q, v], .int .i64 k])) ((w1.setCell ⟨b, 0, none⟩ x).setCell ⟨b, 1, none⟩ y) :=
  ⟨_, rfl, ((h.base hbb).far hB (by decide) (by decide) 0 x).far (hB.set_ 0 x) (by decide) (by decide) 1 y, (hX.setCell hb _).setCell hb _⟩
theorem encM_three {m : MultiD} {p : MP} (h : p.k = 0) : (encM m p)[1]? = some p.a ∧ (encM m p)[2]? = some p.t := by
  unfold encM
  rw [if_pos h]
  exact ⟨rfl, rfl⟩
theorem encM_fst {m : MultiD} {p : MP} (hp : WOk m p) : (encM m p)[0]? = some p.k := by
  have := encM_head hp
  rwa [List.head?_eq_getElem?] at this
set_option maxRecDepth 20000 in
set_option maxHeartbeats 8000000 in
theorem l13Decode_c (base : Nat) (w : World) (bk b bc : Nat) (m : MultiD) (rs : List RuleD) (ps : List MP) (rv pv : Value) (vs : List Value) (c : ConfD)
    (h : MkM base w bk b m (2 * m.sy) ps.length rs ps rv pv vs) (hok : ∀ p ∈ ps, WOk m p) (l1 : 1 ≤ ps.length) (l2 : ps.length ≤ 1000) (hM : MulAt w b m) (hm : multiOk m = true) (hC : ConfP w bc c) :
    Calls Try.prog 21 #[.pointer (some ⟨bk, 0, none⟩), .pointer (some ⟨bc, 0, none⟩)] w (DecResS w (if confB ⟨2 * m.sy, ps.length, rs⟩ c then decOne m (ps.getD c.q.toNat mp0) c else (⟨0, []⟩, 2))) := by
  obtain ⟨i0, hi0, hz0, hz1, hz2⟩ := info_parts tapeInfo
  obtain ⟨⟨tp1, tp2⟩, ⟨y1, y2⟩, _⟩ := multi_all hm
  obtain ⟨Ap, cp, rfl, hp1, hp2, _⟩ := (ownsRow_row h.places).form
  obtain ⟨R, hR⟩ : ∃ R, R = (if confB ⟨2 * m.sy, ps.length, rs⟩ c then decOne m (ps.getD c.q.toNat mp0) c else (⟨0, []⟩, 2)) := ⟨_, rfl⟩
  rw [← hR]
  have HR := Lib.hid hR
  obtain ⟨g, hg⟩ : ∃ g, w.heap.size = g := ⟨_, rfl⟩
  obtain ⟨W, hW⟩ : ∃ W, W = w.alloc (.cells #[.int .i64 0, .slice none 0 0] 32) := ⟨_, rfl⟩
  have hX : Ext w W := by rw [hW]; exact Ext.alloc _ _
  have bO : Blk W g 32 #[.int .i64 0, .slice none 0 0] := by rw [hW]; exact Blk.new _ _ _ _ hg
  have hwg : w.heap.size ≤ g := by omega
  have x4 := (h.blk.ext hX).cell 4
  have x5 := (h.blk.ext hX).cell 5
  simp only [List.getElem?_toArray, List.getElem?_cons_zero, List.getElem?_cons_succ] at x4 x5
  have GD := l05Good_c bk 4 bc ⟨2 * m.sy, ps.length, rs⟩ c W x4 x5 (hC.ext hX) (by show (1 : Int) ≤ 2 * m.sy; omega) (by show 2 * m.sy ≤ 1000000; omega) (by show (1 : Int) ≤ (ps.length : Int); omega) (by show (ps.length : Int) ≤ 1000; omega)
  clear x4 x5 hR
  go_enter Try.func21, Try.ntmps21
  go_wp2_with fail
  try rw [← hW]
  try rw [hg]
  clear hW
  refine GD.mono ?_
  rintro e w1 ⟨rfl, hx1⟩
  clear GD
  have hX1 := hX.trans hx1
  have bO1 := bO.ext hx1
  cases hc : confB ⟨2 * m.sy, ps.length, rs⟩ c with
  | false =>
    have HE : Hid (R = (⟨0, []⟩, 2)) := Lib.hid (by rw [HR.out, hc]; rfl)
    have ob := bO1.cell
    have of_ := bO1.frozen
    clear hc
    go_wp2_with fail
    rw [HE.out]
    exact bodyPost_ret (v := .tuple #[.agg #[.int .i64 0, .slice none 0 0], .int .i64 2]) (by simp [results, Try.results21, go_sem, ob]) rfl (DecResS.fail hwg hX1 _ _)
  | true =>
    obtain ⟨⟨q0, q1⟩, ⟨b1, b2⟩, ⟨b3, b4⟩⟩ := conf_allM hc
    obtain ⟨i, hi⟩ : ∃ i : Nat, c.q = i := ⟨c.q.toNat, by omega⟩
    have hil : i < ps.length := by omega
    obtain ⟨p, hp⟩ : ∃ p, ps[i] = p := ⟨_, rfl⟩
    have hpg : ps[i]? = some p := by rw [List.getElem?_eq_getElem hil, hp]
    have HE : Hid (R = decOne m p c) := Lib.hid (by
      rw [HR.out, hc, hi, Int.toNat_natCast, List.getD_eq_getElem?_getD, hpg]
      rfl)
    have hpk : WOk m p := hok p (by rw [← hp]; exact List.getElem_mem hil)
    obtain ⟨u, hu, hou⟩ := h.rows i p hpg
    obtain ⟨lv, qv, c0, c1, c2, hl, hr⟩ := hC
    have HC : Hid (ConfP w bc c) := Lib.hid ⟨lv, qv, c0, c1, c2, hl, hr⟩
    rw [hi] at c0
    have HB1 : Hid (∀ z ∈ c.l, 0 ≤ z ∧ z ≤ 2 * m.sy - 1) := Lib.hid fun z hz => by have := b2 z hz; omega
    have HB2 : Hid (∀ z ∈ c.r, 0 ≤ z ∧ z ≤ 2 * m.sy - 1) := Lib.hid fun z hz => by have := b4 z hz; omega
    have e0 := encM_fst (m := m) hpk
    have HK3 : Hid (p.k = 0 → (encM m p)[1]? = some p.a ∧ (encM m p)[2]? = some p.t) := Lib.hid encM_three
    have ht0 : 0 ≤ p.t := hpk.t0
    have ht1 : p.t < m.tp := hpk.t1
    obtain ⟨gp, rfl, _, _⟩ := own_at h.places (by omega)
    have k0 : w.cell? ⟨gp, i, none⟩ = some u := (World.ownsRow.cellAt h.places i (by have := h.places.1; omega)).trans hu
    obtain ⟨n, hn⟩ : ∃ n, (encM m p).length = n := ⟨_, rfl⟩
    obtain ⟨Au, cu, rfl, _, _⟩ := id hou.ints.form
    have hn0 : 0 < (encM m p).length := (List.getElem?_eq_some_iff.1 e0).1
    obtain ⟨gu, rfl, _, _⟩ := own_at hou hn0
    have kc : ∀ (q : Nat) (z : Int), (encM m p)[q]? = some z → w.cell? ⟨gu, q, none⟩ = some (.int .i64 z) := fun q z hz => by
      have hq := (List.getElem?_eq_some_iff.1 hz).1
      rw [World.ownsRow.cellAt hou q (by simpa using hq)]
      simp only [ivs, List.getElem?_map, hz]
      rfl
    rw [hn] at k0 hn0
    have u0 := kc 0 _ e0
    have HU1 : Hid (p.k = 0 → w.cell? ⟨gu, 1, none⟩ = some (.int .i64 p.a) ∧ w.cell? ⟨gu, 2, none⟩ = some (.int .i64 p.t) ∧ 2 < n) := Lib.hid fun hk => by
      obtain ⟨a1, a2⟩ := HK3.out hk
      exact ⟨kc 1 _ a1, kc 2 _ a2, by rw [← hn]; exact (List.getElem?_eq_some_iff.1 a2).1⟩
    have x3 := (h.blk.ext hX1).cell 3
    have x1 := (h.blk.ext hX1).cell 1
    simp only [List.getElem?_toArray, List.getElem?_cons_zero, List.getElem?_cons_succ] at x3 x1
    have HX1b := Lib.hid x1
    have HMM := Lib.hid (hM.ext hX1)
    have j1 : (0 : Int) ≤ (i : Int) := by omega
    have j2 : (i : Int) < (ps.length : Int) := by omega
    have zD := Ext.drew w1
    have d0 := zD.cell (hX1.cell c0)
    have d3 := zD.cell x3
    have dk := zD.cell (hX1.cell k0)
    have HI := Lib.hid hi
    clear hc hi hp hpg e0 hn kc x1 x3 c0 c1 c2 hl hr hou hu h q0 q1 b2 b4 k0
    go_upto_region 3 with fail
    refine wp_region_ordT 10 (readsT [0, 1, 2, 3, 4, 5, 6, 7, 8, 9] .done) (by kernel_rfl) (by kernel_rfl) (fun _ _ _ _ _ h => h) ?_
    simp only [readsT]
    iterate 10 (refine wpOrdT_read (v := ?_) (by rfl) (Or.inl ⟨by rfl, fun x hx => ?_⟩) ?_; rotate_left; (· have u0 := hx.cell d0; have u1 := hx.cell d3; have u2 := hx.cell dk; go_simp; try with_reducible rfl); try simp only [Act.put, List.setIfInBounds_toArray, List.set_cons_zero, List.set_cons_succ])
    refine wpOrdT_done ?_
    try simp only [List.drop_succ_cons, List.drop_zero]
    change wpList _ _ _ _ _ w1.drew
    have hX2 := hX1.trans zD
    have hxW := hx1.trans zD
    have bO2 := bO1.ext zD
    have v0 := hX2.cell u0
    clear d0 d3 dk
    generalize w1.drew = V at *
    obtain ⟨pk, pa, pt, pc, pf0, pf1, pf2, pd⟩ := p
    simp only at v0 ht0 ht1 HU1
    by_cases hk : pk = 0
    · obtain ⟨w1', w2', hn2⟩ := HU1.out hk
      have v1 := hX2.cell w1'
      have v2 := hX2.cell w2'
      clear HU1 w1' w2'
      subst hk
      have hn1 : 1 < n := by omega
      have hn1i : (1 : Int) < (n : Int) := by omega
      have hn2i : (2 : Int) < (n : Int) := by omega
      have hn0i : (0 : Int) < (n : Int) := by omega
      have HK : Hid (R = match decTapes m c pt m.tp.toNat with | some ts => (⟨pa, ts⟩, 0) | none => (⟨0, []⟩, 9)) := Lib.hid (by rw [HE.out]; unfold decOne; simp only [if_true]; cases decTapes m c pt m.tp.toNat <;> rfl)
      obtain ⟨gv, hgv⟩ : ∃ gv, V.heap.size = gv := ⟨_, rfl⟩
      obtain ⟨U, hU⟩ : ∃ U, U = (V.alloc (.cells #[] 93)).alloc (.cells #[.int .i64 pa, .slice (some ⟨gv, 0, none⟩) 0 0] 32) := ⟨_, rfl⟩
      have hXU : Ext V U := by rw [hU]; exact (Ext.alloc _ _).trans (Ext.alloc _ _)
      have bT : Blk U (gv + 1) 32 #[.int .i64 pa, .slice (some ⟨gv, 0, none⟩) 0 0] := by rw [hU]; exact Blk.new _ _ _ _ (by simp [hgv])
      have o0 : OwnT gv U (.slice (some ⟨gv, 0, none⟩) 0 0) [] := by
        have h1 := World.ownsRow_made (base := gv) (e := 93) (size := 2) V #[] 0 (by rw [hgv]; exact Nat.le_refl _) (by unfold maxLen; omega) (by simp)
        rw [hgv] at h1
        have h2 : OwnT gv (V.alloc (.cells #[] 93)) (.slice (some ⟨gv, 0, none⟩) 0 0) [] := ⟨[], h1, TCells.nil _ _⟩
        rw [hU]
        exact h2.ext (Ext.alloc _ _)
      have HGV := Lib.hid hgv
      have HXV := Lib.hid hX2
      have HBO := Lib.hid bO2
      have HV2 := Lib.hid v2
      have HX1V := Lib.hid (zD.cell HX1b.out)
      have HMV := Lib.hid (HMM.out.ext zD)
      have HCV := Lib.hid (HC.out.ext hX2)
      clear hX1 hX hx1 zD bO bO1 bO2 hM
      have HC := HCV
      go_wp2_with fail
      try rw [← hU]
      try rw [hgv]
      clear hU hgv
      go_loopw [8] (fun u wr => ∃ (k : Nat) (ts : List TapeD) (v : Value), (k : Int) ≤ m.tp ∧ u = .int .i64 (k : Int) ∧ decTapes m c pt k = some ts ∧ OwnT gv wr v ts ∧ Ext V wr ∧ Blk wr (gv + 1) 32 #[.int .i64 pa, v]) (fun u _ => m.tp.toNat - (intOf u).toNat)
      case atStart => exact ⟨0, [], _, by show (0 : Int) ≤ m.tp; omega, rfl, rfl, o0, hXU, bT⟩
      case round =>
        clear hXU bT o0 v0 v1 v2
        obtain ⟨k, ts, v, hk, rfl, hdt, st, hx, bT⟩ := hrel
        obtain ⟨Av, cv, rfl, _, _⟩ := st.form
        have hXwr := HXV.out.trans hx
        have HMr := HMV.out.ext hx
        obtain ⟨Am, cm, bMr, _⟩ := id HMr
        have m0 := bMr.cell 0
        have x1 := hx.cell HX1V.out
        simp only [List.getElem?_toArray, List.getElem?_cons_zero, List.getElem?_cons_succ] at m0
        have bO3 := HBO.out.ext hx
        by_cases hlt : (k : Int) < m.tp
        · have HD := Lib.hid hdt
          have hts3 : ts.length ≤ 3 := by have := decTapes_len hdt; omega
          have u2 := hx.cell HV2.out
          have HFA : Hid (tapeDec m.sy (lineC m c pt (k : Int)) = none → R = (⟨0, []⟩, 9)) := Lib.hid fun hh => by rw [HK.out, decTapes_fail hh (show k < m.tp.toNat by omega)]
          have HGO : Hid (∀ t, tapeDec m.sy (lineC m c pt (k : Int)) = some t → decTapes m c pt (k + 1) = some (ts ++ [t])) := Lib.hid fun t ht => decTapes_next HD.out ht
          have RT := fun (x : World) (hxx : Ext wr.drew x) => l13Tape_c b bc m c pt (k : Int) x (HMr.ext ((Ext.drew wr).trans hxx)) hm (HC.out.ext (hx.trans ((Ext.drew wr).trans hxx))) b1 b3 ht0 ht1 (by omega) hlt HB1.out HB2.out
          obtain ⟨D, hD⟩ : ∃ D, tapeDec m.sy (lineC m c pt (k : Int)) = D := ⟨_, rfl⟩
          rw [hD] at HFA HGO
          have RT2 : ∀ (x : World), Ext wr.drew x → Calls Try.prog 42 #[.pointer (some ⟨b, 0, none⟩), .pointer (some ⟨bc, 0, none⟩), .int .i64 pt, .int .i64 (k : Int)] x (TapeResS x D) := fun x hxx => by rw [← hD]; exact RT x hxx
          have hmeas : m.tp.toNat - (k + 1) < m.tp.toNat - k := by omega
          have hkw : IntKind.i64.wrap ((k : Int) + 1) = (k : Int) + 1 := IntWalk.i64_in _ (by omega)
          clear hdt hD RT
          have zD := Ext.drew wr
          have y1 := zD.cell x1
          have y2 := zD.cell u2
          go_upto_region 10 with fail
          refine wp_region_ordT 15 (readsT [0, 1, 2, 3, 4, 5, 6, 7, 8] (.fork 9 (readsT [10, 11, 12] (.stir 13 (.stir 14 .done))) 13 (.stir 9 (readsT [10, 11, 12] (.stir 14 .done))))) (by kernel_rfl) (by kernel_rfl) (fun _ _ _ _ _ h => h) ?_
          simp only [readsT]
          iterate 9 (refine wpOrdT_read (v := ?_) (by rfl) (Or.inl ⟨by rfl, fun x hx => ?_⟩) ?_; rotate_left; (· have u0 := hx.cell y1; have u1 := hx.cell y2; go_simp; try with_reducible rfl); try simp only [Act.put, List.setIfInBounds_toArray, List.set_cons_zero, List.set_cons_succ])
          have hxY := hx.trans zD
          have bTY := bT.ext zD
          have stY := st.ext zD
          have bOY := bO3.ext zD
          clear x1 u2 y1 y2 m0 bMr HMr hXwr hx bT st bO3 zD
          generalize wr.drew = Y at *
          refine wpOrdT_forks (by rfl) (by rfl) (fun K hK => ?_) (fun K hK => ?_)
          · go_simp
            go_at_call 42
            refine (RT2 _ (Ext.refl _)).mono ?_
            rintro e w5 ⟨hres, hx5⟩
            rcases hres with ⟨hnn, rfl⟩ | ⟨t, lv, rv', hss, rfl, ol, or⟩
            · obtain ⟨Z, hZ⟩ : ∃ Z, Z = w5.alloc (.cells #[.slice none 0 0, .slice none 0 0] 93) := ⟨_, rfl⟩
              have hYZ : Ext Y Z := by rw [hZ]; exact hx5.trans (Ext.alloc _ _)
              refine hK (Ext Y) _ _ (fun _ h => h) hx5 ?_
              clear hK K
              try simp only [Act.put, List.setIfInBounds_toArray, List.set_cons_zero, List.set_cons_succ]
              iterate 3 (refine wpOrdT_read (v := ?_) (by rfl) (Or.inl ⟨by rfl, fun x hx => ?_⟩) ?_; rotate_left; (· go_simp; try with_reducible rfl); try simp only [Act.put, List.setIfInBounds_toArray, List.set_cons_zero, List.set_cons_succ])
              refine wpOrdT_keep (by rfl) (fun K hK => ?_)
              go_simp
              refine hK _ _ (hx5.trans (Ext.alloc _ _)) ?_
              clear hK K
              try simp only [Act.put, List.setIfInBounds_toArray, List.set_cons_zero, List.set_cons_succ]
              refine wpOrdT_keep (by rfl) (fun K hK => ?_)
              go_simp
              try rw [← hZ]
              refine hK _ _ hYZ ?_
              clear hK K hZ
              try simp only [Act.put, List.setIfInBounds_toArray, List.set_cons_zero, List.set_cons_succ]
              refine wpOrdT_done ?_
              try simp only [List.drop_succ_cons, List.drop_zero]
              have HE9 : Hid (R = (⟨0, []⟩, 9)) := Lib.hid (HFA.out hnn)
              have bO6 := bOY.ext hYZ
              have ob := bO6.cell
              have of_ := bO6.frozen
              have hXf : Ext w Z := HXV.out.trans (hxY.trans hYZ)
              clear hnn
              go_wp2_with fail
              rw [HE9.out]
              exact bodyPost_ret (v := .tuple #[.agg #[.int .i64 0, .slice none 0 0], .int .i64 9]) (by simp [results, Try.results21, go_sem, ob]) rfl (DecResS.fail hwg hXf _ _)
            · obtain ⟨A5, c5, rfl, _, _⟩ := ol.ints.form
              obtain ⟨A7, c7, rfl, _, _⟩ := or.ints.form
              have hgY : gv ≤ Y.heap.size := by have := hxY.size; rw [HGV.out] at this; exact this
              obtain ⟨Z, hZ⟩ : ∃ Z, Z = w5.alloc (.cells #[.slice A5 t.l.length c5, .slice A7 t.r.length c7] 93) := ⟨_, rfl⟩
              have hYZ : Ext Y Z := by rw [hZ]; exact hx5.trans (Ext.alloc _ _)
              obtain ⟨gz, hgz⟩ : ∃ gz, w5.heap.size = gz := ⟨_, rfl⟩
              have bZ : Blk Z gz 93 #[.slice A5 t.l.length c5, .slice A7 t.r.length c7] := by rw [hZ]; exact Blk.new _ _ _ _ hgz
              have olZ : OwnInts gv Z (.slice A5 t.l.length c5) t.l := by rw [hZ]; exact OwnInts.ext (ownsRow_base ol hgY) (Ext.alloc _ _)
              have orZ : OwnInts gv Z (.slice A7 t.r.length c7) t.r := by rw [hZ]; exact OwnInts.ext (ownsRow_base or hgY) (Ext.alloc _ _)
              refine hK (Ext Y) _ _ (fun _ h => h) hx5 ?_
              clear hK K
              try simp only [Act.put, List.setIfInBounds_toArray, List.set_cons_zero, List.set_cons_succ]
              iterate 3 (refine wpOrdT_read (v := ?_) (by rfl) (Or.inl ⟨by rfl, fun x hx => ?_⟩) ?_; rotate_left; (· go_simp; try with_reducible rfl); try simp only [Act.put, List.setIfInBounds_toArray, List.set_cons_zero, List.set_cons_succ])
              refine wpOrdT_keep (by rfl) (fun K hK => ?_)
              go_simp
              refine hK _ _ (hx5.trans (Ext.alloc _ _)) ?_
              clear hK K
              try simp only [Act.put, List.setIfInBounds_toArray, List.set_cons_zero, List.set_cons_succ]
              refine wpOrdT_keep (by rfl) (fun K hK => ?_)
              go_simp
              try rw [hgz]
              clear hgz
              try rw [← hZ]
              refine hK _ _ hYZ ?_
              clear hK K hZ
              try simp only [Act.put, List.setIfInBounds_toArray, List.set_cons_zero, List.set_cons_succ]
              refine wpOrdT_done ?_
              try simp only [List.drop_succ_cons, List.drop_zero]
              have HG := Lib.hid (HGO.out _ hss)
              have hxZ := hxY.trans hYZ
              have bTZ := bTY.ext hYZ
              have stZ := stY.ext hYZ
              have z0 := bZ.cell 0
              have z1 := bZ.cell 1
              have t1 := bTZ.cell 1
              simp only [List.getElem?_toArray, List.getElem?_cons_zero, List.getElem?_cons_succ] at z0 z1 t1
              obtain ⟨cl, ho, htc⟩ := stZ
              have eA := Ext.alloc Z (.cells #[.slice A5 t.l.length c5, .slice A7 t.r.length c7] 93)
              have ho4 := ownsRow_ext ho eA
              have hNL := (TCells.snoc htc olZ orZ).ext eA
              have bT4 := bTZ.ext eA
              have hx4 := hxZ.trans eA
              have hsV : gv ≤ Z.heap.size := by have := hxZ.size; rw [HGV.out] at this; exact this
              go_wp2_with (at_builtin; refine wpList_append_own_at _ rfl _ _ 30 rfl gv 93 i0 (.agg #[.slice none 0 0, .slice none 0 0]) 2 48 Try.underlying30 hi0 hz0 hz1 hz2 rfl (by decide) _ _ cl rfl ho4 ⟨Z.heap.size, 0, none⟩ 1 1 [.slice A5 t.l.length c5, .slice A7 t.r.length c7] rfl rfl (World.news_of_block (heap_alloc_new Z _)) ?c2 ?c3 ?c4 ?c5 ?_)
              case c2 => first | exact ⟨rfl, rfl⟩ | (intro u hu; simp at hu; rcases hu with rfl | rfl <;> rfl)
              case c3 => unfold maxLen; omega
              case c4 => omega
              case c5 => first | omega | (simp; omega)
              intro v' w9 hown9 hg9 _ _
              obtain ⟨A9, c9, rfl, _, _, _⟩ := (ownsRow_row hown9).form
              have HS : OwnT gv w9 (.slice A9 (ts.length + 1) c9) (ts ++ [t]) := by
                refine ⟨_, ?_, hNL.same fun q cs hq => hg9.block q hq.lt (blk_ne_row hq ho4 (by decide))⟩
                rw [List.length_append, List.length_singleton]
                exact hown9
              have bT9 := Blk.apart bT4 ho4 (by decide) hg9
              have hx9 : Ext V w9 := hx4.grown hg9 (fun q hq => by rw [HGV.out]; exact (ho4.lt q hq).1)
              have q9 := bT9.cell 1
              have qf := bT9.frozen 1
              simp only [List.getElem?_toArray, List.getElem?_cons_zero, List.getElem?_cons_succ] at q9
              have HS9 := Lib.hid (HS.far bT9 (by decide) (by decide) 1 (.slice A9 (ts.length + 1) c9))
              have HX9 := Lib.hid (hx9.setCell (p := ⟨gv + 1, 1, none⟩) (by show V.heap.size ≤ gv + 1; rw [HGV.out]; omega) (.slice A9 (ts.length + 1) c9))
              have HC9 := Lib.hid (bT9.set_ 1 (.slice A9 (ts.length + 1) c9))
              clear ho4 hNL bT4 hx4 hown9 hg9 HS bT9 hx9 eA ho htc olZ orZ z0 z1 t1 bTZ hss
              go_wp2_with fail
              go_roundw
              case rel => exact ⟨k + 1, _, _, by omega, by go_num, HG.out, HS9.out, HX9.out, HC9.out⟩
              case measure => simp [intOf]; omega
          · go_simp
            refine hK (Ext Y) _ _ (fun _ h => h) (Ext.alloc _ _) ?_
            clear hK K
            try simp only [Act.put, List.setIfInBounds_toArray, List.set_cons_zero, List.set_cons_succ]
            refine wpOrdT_keep (by rfl) (fun K hK => ?_)
            go_simp
            go_at_call 42
            have hgY0 : gv ≤ Y.heap.size := by have := hxY.size; rw [HGV.out] at this; exact this
            have bz0 : Blk (Y.alloc (.cells #[.slice none 0 0, .slice none 0 0] 93)) Y.heap.size 93 #[.slice none 0 0, .slice none 0 0] := Blk.new _ _ _ _ rfl
            refine (RT2 _ (Ext.alloc _ _)).mono ?_
            rintro e w5 ⟨hres, hx5⟩
            have bz5 := bz0.ext hx5
            have zf := bz5.frozen
            have zc := bz5.cell
            have hszY : Y.heap.size ≤ (Y.alloc (.cells #[.slice none 0 0, .slice none 0 0] 93)).heap.size := (Ext.alloc _ _).size
            obtain ⟨gz, hgz⟩ : ∃ gz, Y.heap.size = gz := ⟨_, rfl⟩
            rw [hgz] at bz5 zf zc
            rcases hres with ⟨hnn, rfl⟩ | ⟨t, lv, rv', hss, rfl, ol, or⟩
            · obtain ⟨Z, hZ⟩ : ∃ Z, Z = (w5.setCell ⟨gz, 0, none⟩ (.slice none 0 0)).setCell ⟨gz, 1, none⟩ (.slice none 0 0) := ⟨_, rfl⟩
              have hgz2 : Y.heap.size ≤ gz := by omega
              have hYZ : Ext Y Z := by rw [hZ]; exact ((((Ext.alloc _ _).trans hx5).setCell (p := ⟨gz, 0, none⟩) hgz2 _).setCell (p := ⟨gz, 1, none⟩) hgz2 _)
              try rw [hgz]
              clear hgz
              refine hK _ _ ((Ext.alloc _ _).trans hx5) ?_
              clear hK K
              try simp only [Act.put, List.setIfInBounds_toArray, List.set_cons_zero, List.set_cons_succ]
              iterate 3 (refine wpOrdT_read (v := ?_) (by rfl) (Or.inl ⟨by rfl, fun x hx => ?_⟩) ?_; rotate_left; (· go_simp; try with_reducible rfl); try simp only [Act.put, List.setIfInBounds_toArray, List.set_cons_zero, List.set_cons_succ])
              refine wpOrdT_keep (by rfl) (fun K hK => ?_)
              go_simp
              try rw [← hZ]
              refine hK _ _ hYZ ?_
              clear hK K hZ
              try simp only [Act.put, List.setIfInBounds_toArray, List.set_cons_zero, List.set_cons_succ]
              refine wpOrdT_done ?_
              try simp only [List.drop_succ_cons, List.drop_zero]
              have HE9 : Hid (R = (⟨0, []⟩, 9)) := Lib.hid (HFA.out hnn)
              have bO6 := bOY.ext hYZ
              have ob := bO6.cell
              have of_ := bO6.frozen
              have hXf : Ext w Z := HXV.out.trans (hxY.trans hYZ)
              clear hnn
              go_wp2_with fail
              rw [HE9.out]
              exact bodyPost_ret (v := .tuple #[.agg #[.int .i64 0, .slice none 0 0], .int .i64 9]) (by simp [results, Try.results21, go_sem, ob]) rfl (DecResS.fail hwg hXf _ _)
            · obtain ⟨A5, c5, rfl, _, _⟩ := ol.ints.form
              obtain ⟨A7, c7, rfl, _, _⟩ := or.ints.form
              have hgY : gv ≤ Y.heap.size := by have := hxY.size; rw [HGV.out] at this; exact this
              have hs5 : gv ≤ (Y.alloc (.cells #[.slice none 0 0, .slice none 0 0] 93)).heap.size := Nat.le_trans hgY0 hszY
              obtain ⟨Z, hZ⟩ : ∃ Z, Z = (w5.setCell ⟨gz, 0, none⟩ (.slice A5 t.l.length c5)).setCell ⟨gz, 1, none⟩ (.slice A7 t.r.length c7) := ⟨_, rfl⟩
              have hgz2 : Y.heap.size ≤ gz := by omega
              have hYZ : Ext Y Z := by rw [hZ]; exact ((((Ext.alloc _ _).trans hx5).setCell (p := ⟨gz, 0, none⟩) hgz2 _).setCell (p := ⟨gz, 1, none⟩) hgz2 _)
              have bZ : Blk Z gz 93 #[.slice A5 t.l.length c5, .slice A7 t.r.length c7] := by rw [hZ]; exact (bz5.set_ 0 _).set_ 1 _
              have olZ : OwnInts gv Z (.slice A5 t.l.length c5) t.l := by rw [hZ]; exact own_setM (bz5.set_ 0 _) (by decide) (own_setM bz5 (by decide) (ownsRow_base ol hs5) 0 _) 1 _
              have orZ : OwnInts gv Z (.slice A7 t.r.length c7) t.r := by rw [hZ]; exact own_setM (bz5.set_ 0 _) (by decide) (own_setM bz5 (by decide) (ownsRow_base or hs5) 0 _) 1 _
              try rw [hgz]
              clear hgz
              refine hK _ _ ((Ext.alloc _ _).trans hx5) ?_
              clear hK K
              try simp only [Act.put, List.setIfInBounds_toArray, List.set_cons_zero, List.set_cons_succ]
              iterate 3 (refine wpOrdT_read (v := ?_) (by rfl) (Or.inl ⟨by rfl, fun x hx => ?_⟩) ?_; rotate_left; (· go_simp; try with_reducible rfl); try simp only [Act.put, List.setIfInBounds_toArray, List.set_cons_zero, List.set_cons_succ])
              refine wpOrdT_keep (by rfl) (fun K hK => ?_)
              go_simp
              try rw [← hZ]
              refine hK _ _ hYZ ?_
              clear hK K hZ
              try simp only [Act.put, List.setIfInBounds_toArray, List.set_cons_zero, List.set_cons_succ]
              refine wpOrdT_done ?_
              try simp only [List.drop_succ_cons, List.drop_zero]
              have HG := Lib.hid (HGO.out _ hss)
              have hxZ := hxY.trans hYZ
              have bTZ := bTY.ext hYZ
              have stZ := stY.ext hYZ
              have z0 := bZ.cell 0
              have z1 := bZ.cell 1
              have t1 := bTZ.cell 1
              simp only [List.getElem?_toArray, List.getElem?_cons_zero, List.getElem?_cons_succ] at z0 z1 t1
              obtain ⟨cl, ho, htc⟩ := stZ
              have eA := Ext.alloc Z (.cells #[.slice A5 t.l.length c5, .slice A7 t.r.length c7] 93)
              have ho4 := ownsRow_ext ho eA
              have hNL := (TCells.snoc htc olZ orZ).ext eA
              have bT4 := bTZ.ext eA
              have hx4 := hxZ.trans eA
              have hsV : gv ≤ Z.heap.size := by have := hxZ.size; rw [HGV.out] at this; exact this
              go_wp2_with (at_builtin; refine wpList_append_own_at _ rfl _ _ 30 rfl gv 93 i0 (.agg #[.slice none 0 0, .slice none 0 0]) 2 48 Try.underlying30 hi0 hz0 hz1 hz2 rfl (by decide) _ _ cl rfl ho4 ⟨Z.heap.size, 0, none⟩ 1 1 [.slice A5 t.l.length c5, .slice A7 t.r.length c7] rfl rfl (World.news_of_block (heap_alloc_new Z _)) ?c2 ?c3 ?c4 ?c5 ?_)
              case c2 => first | exact ⟨rfl, rfl⟩ | (intro u hu; simp at hu; rcases hu with rfl | rfl <;> rfl)
              case c3 => unfold maxLen; omega
              case c4 => omega
              case c5 => first | omega | (simp; omega)
              intro v' w9 hown9 hg9 _ _
              obtain ⟨A9, c9, rfl, _, _, _⟩ := (ownsRow_row hown9).form
              have HS : OwnT gv w9 (.slice A9 (ts.length + 1) c9) (ts ++ [t]) := by
                refine ⟨_, ?_, hNL.same fun q cs hq => hg9.block q hq.lt (blk_ne_row hq ho4 (by decide))⟩
                rw [List.length_append, List.length_singleton]
                exact hown9
              have bT9 := Blk.apart bT4 ho4 (by decide) hg9
              have hx9 : Ext V w9 := hx4.grown hg9 (fun q hq => by rw [HGV.out]; exact (ho4.lt q hq).1)
              have q9 := bT9.cell 1
              have qf := bT9.frozen 1
              simp only [List.getElem?_toArray, List.getElem?_cons_zero, List.getElem?_cons_succ] at q9
              have HS9 := Lib.hid (HS.far bT9 (by decide) (by decide) 1 (.slice A9 (ts.length + 1) c9))
              have HX9 := Lib.hid (hx9.setCell (p := ⟨gv + 1, 1, none⟩) (by show V.heap.size ≤ gv + 1; rw [HGV.out]; omega) (.slice A9 (ts.length + 1) c9))
              have HC9 := Lib.hid (bT9.set_ 1 (.slice A9 (ts.length + 1) c9))
              clear ho4 hNL bT4 hx4 hown9 hg9 HS bT9 hx9 eA ho htc olZ orZ z0 z1 t1 bTZ hss
              go_wp2_with fail
              go_roundw
              case rel => exact ⟨k + 1, _, _, by omega, by go_num, HG.out, HS9.out, HX9.out, HC9.out⟩
              case measure => simp [intOf]; omega
        · have hkt : (k : Int) = m.tp := by omega
          have hkn : m.tp.toNat = k := by omega
          have HE9 : Hid (R = (⟨pa, ts⟩, 0)) := Lib.hid (by rw [HK.out, hkn, hdt])
          have ob := bO3.cell
          have of_ := bO3.frozen
          have t0' := bT.cell 0
          have t1' := bT.cell 1
          simp only [List.getElem?_toArray, List.getElem?_cons_zero, List.getElem?_cons_succ] at t0' t1'
          have hge : ¬ (k : Int) < m.tp := by omega
          have ST := Lib.hid st
          have hgvw : w.heap.size ≤ gv := by have := HXV.out.size; rw [HGV.out] at this; exact this
          clear hkt hkn hdt st bT hlt hk
          go_wp2
          rw [HE9.out]
          exact bodyPost_ret (v := .tuple #[.agg #[.int .i64 pa, .slice Av ts.length cv], .int .i64 0]) (by simp [results, Try.results21, go_sem, ob]) rfl (DecResS.done hwg hXwr ST.out hgvw bO3 _ _)
    · have HN : Hid (R = (⟨0, []⟩, 6)) := Lib.hid (by rw [HE.out]; unfold decOne; simp only; rw [if_neg hk])
      have ob := bO2.cell
      have of_ := bO2.frozen
      have hn0i : (0 : Int) < (n : Int) := by omega
      go_wp2
      rw [HN.out]
      exact bodyPost_ret (v := .tuple #[.agg #[.int .i64 0, .slice none 0 0], .int .i64 6]) (by simp [results, Try.results21, go_sem, ob]) rfl (DecResS.fail hwg hX2 _ _)
end Go.Proofs.Ytfghojbbofobeaa
end
section
set_option linter.unusedVariables false
set_option linter.unusedSimpArgs false
namespace Go.Proofs.Ytfghojbbofobeaa
open Go Go.RowKit Go.Proofs
set_option maxHeartbeats 400000
set_option maxRecDepth 20000 in
set_option maxHeartbeats 1000000 in
theorem l06Before_c (b1 o1 b2 o2 : Nat) (a b : MRuleD) (u v : Value) (w : World) (c0 : w.cell? ⟨b1, o1, none⟩ = some (.int .i64 a.st)) (c1 : w.cell? ⟨b1, o1 + 1, none⟩ = some u) (d0 : w.cell? ⟨b2, o2, none⟩ = some (.int .i64 b.st)) (d1 : w.cell? ⟨b2, o2 + 1, none⟩ = some v) (hu : Ints w u a.rd) (hv : Ints w v b.rd) :
    Calls Try.prog 38 #[.pointer (some ⟨b1, o1, none⟩), .pointer (some ⟨b2, o2, none⟩)] w fun e w' => e = .returned (.bool (decide (cmpM a b < 0))) ∧ Ext w w' := by
  obtain ⟨A, ca, rfl, _, _⟩ := hu.form
  obtain ⟨B, cb, rfl, _, _⟩ := hv.form
  have q0 := cellR c0
  have q1 := cellR c1
  have r0 := cellR d0
  have r1 := cellR d1
  obtain ⟨z, hz⟩ : ∃ z, decide (cmpM a b < 0) = z := ⟨_, rfl⟩
  rw [hz]
  have HZ := Lib.hid hz
  clear hz
  by_cases h1 : a.st < b.st
  · have HE : Hid (z = true) := by unfold Hid; rw [← HZ.out, cmpM, if_neg (by omega), if_pos h1]; rfl
    go_enter Try.func38, Try.ntmps38
    go_wp2_with fail
    refine wp_region_ext (by kernel_rfl) (by kernel_rfl) ?_
    repeat (go_big_quiet_step (fail))
    refine wpQuiet_nil ?_
    intro w2 hx2
    go_wp2_with fail
    go_ret
    exact ⟨by rw [HE.out]; rfl, hx2⟩
  · have h1b : decide (a.st < b.st) = false := decide_eq_false h1
    by_cases h2 : a.st = b.st
    · have h2b : (a.st == b.st) = true := by simp [h2]
      have CM := fun d os => l01Compare_c (Sort.grow (redrawn w d) os) _ _ a.rd b.rd (hu.ext (below_regrown _ _ _)) (hv.ext (below_regrown _ _ _))
      have HE : Hid (z = decide (cmpL a.rd b.rd < 0)) := by unfold Hid; rw [← HZ.out, cmpM, if_pos h2]
      generalize cmpL a.rd b.rd = y at *
      clear h1 h2
      go_enter Try.func38, Try.ntmps38
      go_wp2_with fail
      refine wp_region_ext (by kernel_rfl) (by kernel_rfl) ?_
      repeat (go_big_quiet_step ((go_at_call 62; exact Calls.extR (CM _ _))))
      refine wpQuiet_nil ?_
      intro w2 hx2
      go_wp2_with fail
      go_ret
      exact ⟨by rw [HE.out]; rfl, hx2⟩
    · have h2b : (a.st == b.st) = false := by simp [h2]
      have HE : Hid (z = false) := by unfold Hid; rw [← HZ.out, cmpM, if_neg h2, if_neg h1]; rfl
      clear h1 h2
      go_enter Try.func38, Try.ntmps38
      go_wp2_with fail
      refine wp_region_ext (by kernel_rfl) (by kernel_rfl) ?_
      repeat (go_big_quiet_step (fail))
      refine wpQuiet_nil ?_
      intro w2 hx2
      go_wp2_with fail
      go_ret
      exact ⟨by rw [HE.out]; rfl, hx2⟩
end Go.Proofs.Ytfghojbbofobeaa
end
