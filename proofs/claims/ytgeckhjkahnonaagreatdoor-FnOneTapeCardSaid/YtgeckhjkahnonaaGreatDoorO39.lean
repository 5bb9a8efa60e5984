/- Contract of the reference's drawing of a machine with two tapes and of two words.
Contract of the reference's drawing of a machine with two tapes and of two words, the walk.
Contract of the program's decoding of a configuration in a place of the machine with one tape. -/
import Derived.Test.YtgeckhjkahnonaaGreatDoorO37
import Derived.Test.YtgeckhjkahnonaaGreatDoorO38
import Derived.Test.YtgeckhjkahnonaaGreatDoorO03
import Derived.Test.YtgeckhjkahnonaaGreatDoorO18
import Derived.Test.YtgeckhjkahnonaaGreatDoorO24
section
set_option linter.unusedSimpArgs false
set_option linter.unusedVariables false
namespace Go.Proofs.YtgeckhjkahnonaaGreatDoor
open Go Go.RowKit Go.Proofs
set_option maxHeartbeats 400000
/-- The place of a rule among all of them. -/
def keyR (r : MRuleD) : Int := 4 * r.st + 2 * r.rd.getD 0 0 + r.rd.getD 1 0
/-- Rules of a machine with two tapes, two symbols and st states; they rise and are below the place K. -/
structure RulD (st : Int) (K : Int) (rs : List MRuleD) : Prop where
  ok : ∀ r ∈ rs, (0 ≤ r.st ∧ r.st ≤ st - 1) ∧ (0 ≤ r.nx ∧ r.nx ≤ st - 1) ∧ (∃ a b : Int, r.rd = [a, b] ∧ (0 ≤ a ∧ a ≤ 1) ∧ 0 ≤ b ∧ b ≤ 1) ∧ r.wr.length = 2 ∧ (∀ z ∈ r.wr, 0 ≤ z ∧ z ≤ 1) ∧ r.mv.length = 2 ∧ (∀ z ∈ r.mv, -1 ≤ z ∧ z ≤ 1) ∧ keyR r < K
  up : rs.Pairwise fun a b => keyR a < keyR b
  len : (rs.length : Int) ≤ K
theorem RulD.nil (st : Int) : RulD st 0 [] := ⟨fun r hr => (by cases hr), List.Pairwise.nil, by simp⟩
theorem RulD.skip {st K : Int} {rs : List MRuleD} (h : RulD st K rs) : RulD st (K + 1) rs :=
  ⟨fun r hr => by obtain ⟨a, b, c, d, e, f, g, k⟩ := h.ok r hr; exact ⟨a, b, c, d, e, f, g, by omega⟩, h.up, by have := h.len; omega⟩
theorem RulD.snoc {st q n nx : Int} {rs : List MRuleD} {wr mv : List Int} (h : RulD st (4 * q + n) rs) (hq : 0 ≤ q ∧ q < st) (hn : 0 ≤ n ∧ n < 4) (hx : 0 ≤ nx ∧ nx < st)
    (hw : wr.length = 2 ∧ ∀ z ∈ wr, 0 ≤ z ∧ z ≤ 1) (hm : mv.length = 2 ∧ ∀ z ∈ mv, -1 ≤ z ∧ z ≤ 1) : RulD st (4 * q + n + 1) (rs ++ [⟨q, [n / 2, n % 2], wr, mv, nx⟩]) := by
  have hk : keyR ⟨q, [n / 2, n % 2], wr, mv, nx⟩ = 4 * q + n := by
    show 4 * q + 2 * (n / 2) + n % 2 = _
    omega
  refine ⟨fun r hr => ?_, ?_, by have := h.len; simp; omega⟩
  · rcases List.mem_append.1 hr with hr | hr
    · obtain ⟨a, b, c, d, e, f, g, k⟩ := h.ok r hr
      exact ⟨a, b, c, d, e, f, g, by omega⟩
    · rw [List.mem_singleton.1 hr]
      exact ⟨⟨hq.1, by show q ≤ _; omega⟩, ⟨hx.1, by show nx ≤ _; omega⟩, ⟨_, _, rfl, by omega, by omega⟩, hw.1, hw.2, hm.1, hm.2, by rw [hk]; omega⟩
  · refine List.pairwise_append.2 ⟨h.up, List.pairwise_singleton _ _, fun a ha b hb => ?_⟩
    rw [List.mem_singleton.1 hb, hk]
    exact (h.ok a ha).2.2.2.2.2.2.2
theorem key_cmp {a b : MRuleD} (ha : ∃ x y : Int, a.rd = [x, y] ∧ (0 ≤ x ∧ x ≤ 1) ∧ 0 ≤ y ∧ y ≤ 1) (hb : ∃ x y : Int, b.rd = [x, y] ∧ (0 ≤ x ∧ x ≤ 1) ∧ 0 ≤ y ∧ y ≤ 1) (h : keyR a < keyR b) : cmpM a b < 0 := by
  obtain ⟨x, y, e, hx, hy⟩ := ha
  obtain ⟨x', y', e', hx', hy'⟩ := hb
  unfold keyR at h
  rw [e, e'] at h
  have h : 4 * a.st + 2 * x + y < 4 * b.st + 2 * x' + y' := h
  unfold cmpM
  rw [e, e']
  split
  · rename_i hs
    unfold cmpL
    split
    · decide
    · rename_i h1
      have : x = x' := by omega
      subst this
      rw [if_neg h1]
      unfold cmpL
      rw [if_pos (by omega)]
      decide
  · rename_i hs
    rw [if_pos (by omega)]
    decide
theorem RulD.multi {st K : Int} {rs : List MRuleD} (h : RulD st K rs) (hK : K ≤ 8) (hst : 1 ≤ st ∧ st ≤ 2) : multiOk ⟨2, 2, st, rs⟩ = true := by
  have hall : ∀ r ∈ rs, mruleOk ⟨2, 2, st, rs⟩ r = true := fun r hr => by
    obtain ⟨a, b, ⟨x, y, e, hx, hy⟩, d1, d2, d3, d4, _⟩ := h.ok r hr
    have p1 : allIn r.rd 0 (2 - 1) = true := by
      rw [e]
      simp only [allIn, List.all_cons, List.all_nil, Bool.and_true, Bool.and_eq_true]
      exact ⟨inB_iff.2 hx, inB_iff.2 hy⟩
    have p2 : allIn r.wr 0 (2 - 1) = true := List.all_eq_true.2 fun z hz => inB_iff.2 (d2 z hz)
    have p3 : allIn r.mv (-1) 1 = true := List.all_eq_true.2 fun z hz => inB_iff.2 (d4 z hz)
    have p4 : inB r.st 0 (st - 1) = true := inB_iff.2 a
    have p5 : inB r.nx 0 (st - 1) = true := inB_iff.2 b
    have p6 : decide ((r.rd.length : Int) = 2) = true := decide_eq_true (by rw [e]; rfl)
    have p7 : decide ((r.wr.length : Int) = 2) = true := decide_eq_true (by omega)
    have p8 : decide ((r.mv.length : Int) = 2) = true := decide_eq_true (by omega)
    show (inB r.st 0 (st - 1) && inB r.nx 0 (st - 1) && decide ((r.rd.length : Int) = 2) && decide ((r.wr.length : Int) = 2) && decide ((r.mv.length : Int) = 2) && allIn r.rd 0 (2 - 1) && allIn r.wr 0 (2 - 1) && allIn r.mv (-1) 1) = true
    rw [p1, p2, p3, p4, p5, p6, p7, p8]
    rfl
  refine multi_strict (inB_iff.2 (by show (2 : Int) ≤ 2 ∧ (2 : Int) ≤ 3; omega)) (inB_iff.2 (by show (2 : Int) ≤ 2 ∧ (2 : Int) ≤ 3; omega)) (inB_iff.2 (by show 1 ≤ st ∧ st ≤ 16; omega)) (by have := h.len; show rs.length ≤ 60; omega) hall ?_
  refine List.Pairwise.imp_of_mem (fun {a b} ha hb hk => ?_) h.up
  exact key_cmp (h.ok a ha).2.2.1 (h.ok b hb).2.2.1 hk
end Go.Proofs.YtgeckhjkahnonaaGreatDoor
end
section
set_option linter.unusedSimpArgs false
set_option linter.unusedVariables false
namespace Go.Proofs.YtgeckhjkahnonaaGreatDoor
open Go Go.RowKit Go.Proofs
set_option maxHeartbeats 400000
theorem rows_far {base : Nat} {w : World} {v : Value} {xss : List (List Int)} (h : OwnIntRows base w v xss) {g : Nat} {t : TypeId} {cs : Array Value} (hb : Blk w g t cs) (h1 : t ≠ 2) (h2 : t ≠ 34) (i : Nat) (y : Value) : OwnIntRows base (w.setCell ⟨g, i, none⟩ y) v xss := by
  obtain ⟨vs, a, b, c⟩ := h
  have f : ∀ {e : TypeId} {z : Value} {n : Nat} {zs : List Value}, t ≠ e → w.ownsRow base e 1 z n zs → (w.setCell ⟨g, i, none⟩ y).ownsRow base e 1 z n zs := fun {e z n zs} hne o => ownsRow_far o (fun q hq e' => by
    have e' : q = g := e'
    subst e'
    exact blk_ne_row hb o hne hq.symm) y
  exact ⟨vs, f h2 a, fun i hi => by obtain ⟨u, e, o⟩ := b i hi; exact ⟨u, e, f h1 o⟩, c⟩
theorem rows_base {w : World} {base base' : Nat} {v : Value} {xss : List (List Int)} (h : OwnIntRows base w v xss) (hb : base' ≤ base) : OwnIntRows base' w v xss := by
  obtain ⟨vs, h1, h2, h3⟩ := h
  exact ⟨vs, ownsRow_base h1 hb, fun i hi => by obtain ⟨u, e, o⟩ := h2 i hi; exact ⟨u, e, ownsRow_base o hb⟩, h3⟩
/-- Words of 0 and 1 with at most three letters. -/
def Wd3 (x : List Int) : Prop := x.length ≤ 3 ∧ ∀ z ∈ x, 0 ≤ z ∧ z ≤ 1
/-- What is drawn. -/
def MWDraw (w : World) (e : Ending) (w' : World) : Prop :=
  ∃ (st : Int) (rs : List MRuleD) (A : Option Addr) (c : Nat) (wv : Value) (ws : List (List Int)), e = .returned (.tuple #[.agg #[.int .i64 2, .int .i64 2, .int .i64 st, .slice A rs.length c], wv]) ∧
    OwnMR w.heap.size w' (.slice A rs.length c) rs ∧ multiOk ⟨2, 2, st, rs⟩ = true ∧ OwnIntRows w.heap.size w' wv ws ∧ ws.length = 2 ∧ (∀ x ∈ ws, Wd3 x) ∧ (st ≤ 2 ∧ rs.length ≤ 8) ∧ Ext w w'
/-- The words so far; w is the world in which their drawing began. -/
structure WdS (B b n d : Nat) (w : World) (ws : List (List Int)) (wv : Value) (W : World) : Prop where
  own : OwnIntRows w.heap.size W wv ws
  src : Src B W b (n + d)
  grown : w.grownBy W (some b)
/-- A word so far. -/
structure WdI (B b n d : Nat) (w : World) (xs : List Int) (u : Value) (W : World) : Prop where
  own : OwnInts w.heap.size W u xs
  src : Src B W b (n + d)
  grown : w.grownBy W (some b)
theorem WdI.ext {B b n d : Nat} {w W W' : World} {xs : List Int} {u : Value} (h : WdI B b n d w xs u W) (he : Ext W W') : WdI B b n d w xs u W' := ⟨ownsRow_ext h.own he, h.src.ext he, grownBy_trans h.grown (ext_grownBy he _)⟩
theorem WdI.src' {B b n d d' : Nat} {w W W' : World} {xs : List Int} {u : Value} (h : WdI B b n d w xs u W) (hs : Src B W' b (n + d')) (hg : W.grownBy W' (some b)) : WdI B b n d' w xs u W' := ⟨own_src h.src hg h.own (by decide), hs, grownBy_trans h.grown hg⟩
theorem WdI.snoc {B b n d : Nat} {w W W' : World} {xs ys : List Int} {u v : Value} (h : WdI B b n d w xs u W) (hB : B ≤ w.heap.size) (hb : b < w.heap.size) (ho : OwnInts w.heap.size W' v ys) (hg : W.grownBy W' u.ownBlock) : WdI B b n d w ys v W' :=
  ⟨ho, h.src.kept hg (fun k hk => by have := (h.own.lt k hk).1; exact ⟨by omega, by omega⟩), grownBy_step h.grown hg (fun k hk => .inl (h.own.lt k hk).1)⟩
theorem WdS.snoc {B b n d d' : Nat} {w wI W W' : World} {ws : List (List Int)} {xs : List Int} {wv u v' : Value} {vs : List Value} (hB : B ≤ w.heap.size) (hb : b < w.heap.size) (hwI : WdS B b n d w ws wv wI)
    (h1 : W.ownsRow w.heap.size 34 1 wv ws.length vs) (h2 : ∀ i, (h : i < ws.length) → ∃ u, vs[i]? = some u ∧ OwnInts w.heap.size W u ws[i])
    (h3 : ∀ (i j : Nat) (u u' : Value) (g : Nat), vs[i]? = some u → vs[j]? = some u' → u.ownBlock = some g → u'.ownBlock = some g → i = j)
    (hI : WdI B b n d' wI xs u W) (hlt : ∀ (i : Nat) (u' : Value) (g : Nat), vs[i]? = some u' → u'.ownBlock = some g → g < wI.heap.size)
    (ho : W'.ownsRow w.heap.size 34 1 v' (ws.length + 1) (vs ++ [u])) (hg : W.grownBy W' wv.ownBlock) : WdS B b n d' w (ws ++ [xs]) v' W' := by
  refine ⟨OwnIntRows.snoc h1 h2 h3 (ownsRow_base hI.own hwI.grown.size) (fun i u' g hu hg' e => ?_) ho hg, hI.src.kept hg (fun k hk => ?_), ?_⟩
  · have a := hlt i u' g hu hg'
    have b := (hI.own.lt g e).1
    omega
  · have := (h1.lt k hk).1
    exact ⟨by omega, by omega⟩
  · exact grownBy_step (grownBy_trans hwI.grown hI.grown) hg (fun k hk => .inl (h1.lt k hk).1)
set_option maxRecDepth 20000 in
set_option maxHeartbeats 8000000 in
theorem R8Multi_c (v : Value) (bs : List Int) (w : World) (h : Bytes w v bs) : Calls Tryz.prog 5 #[v] w (MWDraw w) := by
  obtain ⟨i0, hi, hz0', hz1', hz2'⟩ := info_parts intInfo
  obtain ⟨m0i, hmi, mz0, mz1, mz2⟩ := info_parts mruleInfo
  obtain ⟨r0i, hri, rz0, rz1, rz2⟩ := info_parts rowInfo
  obtain ⟨A0, c0, rfl, _, _, _⟩ := h.1.form
  obtain ⟨gO, hgO⟩ : ∃ g, w.heap.size = g := ⟨_, rfl⟩
  obtain ⟨V, hV⟩ : ∃ V, V = w.alloc (.cells #[.int .i64 0, .int .i64 0, .int .i64 0, .slice none 0 0] 26) := ⟨_, rfl⟩
  have hX : Ext w V := by rw [hV]; exact Ext.alloc _ _
  have bO : Blk V gO 26 #[.int .i64 0, .int .i64 0, .int .i64 0, .slice none 0 0] := by rw [hV]; exact Blk.new _ _ _ _ hgO
  have hVs : V.heap.size = gO + 1 := by rw [hV]; simp [hgO]
  have FR := from_c _ bs V (h.ext hX)
  have HX := Lib.hid hX
  have HGO := Lib.hid hgO
  clear h
  go_enter Tryz.func5, Tryz.ntmps5
  go_wp2_with fail
  try rw [← hV]
  try rw [hgO]
  clear hV hgO
  refine FR.mono ?_
  rintro e wf ⟨⟨b, rfl, hb0, hs0⟩, hxf⟩
  have HXF := Lib.hid hxf
  have bO1 := bO.ext hxf
  have hbl := hs0.lt
  have hB : V.heap.size ≤ wf.heap.size := hxf.size
  obtain ⟨B, hBe⟩ : ∃ B, V.heap.size = B := ⟨_, rfl⟩
  rw [hBe] at hs0 hB
  have HBE := Lib.hid hBe
  have HB0 := Lib.hid hb0
  clear FR hX bO hxf hVs hBe hb0
  go_wp2_with fail
  refine (pick_c B b 0 2 wf hs0 (by omega)).mono ?_
  rintro e w4 ⟨⟨y, rfl, y0, _, y2⟩, hs4, hg4⟩
  have y3 := y2 (by omega)
  clear y2
  have HB := Lib.hid hB
  have HBL := Lib.hid hbl
  obtain ⟨st, hst⟩ : ∃ st : Int, 1 + y = st := ⟨_, rfl⟩
  have hst2 : 1 ≤ st ∧ st ≤ 2 := by omega
  have hwst : IntKind.i64.wrap (1 + y) = st := by rw [hst]; exact IntWalk.i64_in _ (by omega)
  have b4 := blk_src hs0 hg4 bO1 (by decide)
  have hz4 := hg4.size
  obtain ⟨gm, hgm⟩ : ∃ g, w4.heap.size = g := ⟨_, rfl⟩
  obtain ⟨Wm, hWm⟩ : ∃ W, W = w4.alloc (.cells #[.int .i64 2, .int .i64 2, .int .i64 st, .slice none 0 0] 26) := ⟨_, rfl⟩
  have em : Ext w4 Wm := by rw [hWm]; exact Ext.alloc _ _
  have bm : Blk Wm gm 26 #[.int .i64 2, .int .i64 2, .int .i64 st, .slice none 0 0] := by rw [hWm]; exact Blk.new _ _ _ _ hgm
  have st0 : DrM B b 0 8 gO gm wf 2 2 st [] (.slice none 0 0) Wm := ⟨b4.ext em, bm, ⟨[], World.ownsRow_nil .., MCells.nil _ _⟩, (hs4.ext em).mono (by omega), grownBy_trans hg4 (ext_grownBy em _)⟩
  have hgOm : gO < gm := by rw [← hgm]; exact b4.lt
  have hwgm : wf.heap.size ≤ gm := by omega
  have HR0 : Hid (RulD st 0 []) := Lib.hid (RulD.nil st)
  have HC : Hid (1 ≤ st ∧ st ≤ 2) := Lib.hid hst2
  clear b4 em bm hs4 hg4 hs0 bO1
  go_wp2_with fail
  try rw [hst]
  try rw [← hWm]
  try rw [hgm]
  clear hWm hgm hst hwst y0 y3 hz4
  go_loopw [6] (fun u wr => ∃ (q : Nat) (rs : List MRuleD) (v : Value), (q : Int) ≤ st ∧ u = .int .i64 (q : Int) ∧ DrM B b 0 (8 + 100 * q) gO gm wf 2 2 st rs v wr ∧ Hid (RulD st (4 * (q : Int) + 0) rs)) (fun u _ => (st - intOf u).toNat)
  case atStart => exact ⟨0, [], _, by omega, rfl, st0, HR0⟩
  case round =>
    clear st0 HR0
    obtain ⟨q, rs, v, hq, rfl, stk, HR⟩ := hrel
    have hm2 := stk.cur.cell 2
    simp only [List.getElem?_toArray, List.getElem?_cons_zero, List.getElem?_cons_succ] at hm2
    by_cases hqs : (q : Int) < st
    · have hd : decide ((q : Int) < st) = true := decide_eq_true hqs
      go_wp2_with fail
      clear hm2 hd
      go_loopw [7] (fun u wr => ∃ (n : Nat) (rs : List MRuleD) (v : Value), n ≤ 4 ∧ u = .int .i64 (n : Int) ∧ DrM B b 0 (8 + 100 * q + 25 * n) gO gm wf 2 2 st rs v wr ∧ Hid (RulD st (4 * (q : Int) + (n : Int)) rs)) (fun u _ => (4 - intOf u).toNat)
      case atStart => exact ⟨0, _, _, by omega, rfl, stk, HR⟩
      case round =>
        clear stk HR rs v
        obtain ⟨n, rs, v, hn, rfl, stk, HR⟩ := hrel
        by_cases hn4 : (n : Int) < 4
        · have hd : decide ((n : Int) < 4) = true := decide_eq_true hn4
          go_wp2_with fail
          clear hd
          refine (one_c B b _ 4 wr stk.src (by omega)).mono ?_
          rintro e w5 ⟨⟨yes, rfl⟩, hs5, hg5⟩
          have st5 := stk.src' (d' := 8 + 100 * q + 25 * n + 2) hs5 hg5
          clear hs5 hg5 stk
          cases yes with
          | true =>
            go_wp2_with fail
            have HST := Lib.hid st5
            go_roundw
            case rel => exact ⟨n + 1, rs, v, by omega, by go_num, ⟨st5.out, st5.cur, st5.own, st5.src.mono (by omega), st5.grown⟩, Lib.hid (by have := HR.out.skip; rw [show (4 * (q : Int) + ((n + 1 : Nat) : Int)) = 4 * (q : Int) + (n : Int) + 1 by omega]; exact this)⟩
            case measure => simp [intOf]; omega
          | false =>
            have hm2 := st5.cur.cell 2
            simp only [List.getElem?_toArray, List.getElem?_cons_zero, List.getElem?_cons_succ] at hm2
            have hm2x := (Ext.alloc w5 (.cells #[.int .i64 ((n : Int) / 2), .int .i64 ((n : Int) % 2)] 2)).cell hm2
            obtain ⟨gx, hgx⟩ : ∃ g, w5.heap.size = g := ⟨_, rfl⟩
            obtain ⟨Wx, hWx⟩ : ∃ W, W = w5.alloc (.cells #[.int .i64 ((n : Int) / 2), .int .i64 ((n : Int) % 2)] 2) := ⟨_, rfl⟩
            have ex : Ext w5 Wx := by rw [hWx]; exact Ext.alloc _ _
            have bx : Blk Wx gx 2 #[.int .i64 ((n : Int) / 2), .int .i64 ((n : Int) % 2)] := by rw [hWx]; exact Blk.new _ _ _ _ hgx
            have ox : OwnInts w5.heap.size Wx (.slice (some ⟨gx, 0, none⟩) 2 2) [(n : Int) / 2, (n : Int) % 2] := own2 bx (by omega)
            go_wp2_with fail
            try rw [← hWx]
            try rw [hgx]
            clear hm2 hm2x
            refine (pick_c B b _ st Wx (st5.src.ext ex) (by omega)).mono ?_
            rintro e w6 ⟨⟨nx, rfl, nx0, nxz, nx2⟩, hs6, hg6⟩
            have HNX : Hid (0 ≤ nx ∧ nx < st) := Lib.hid (by by_cases h1 : st ≤ 1; (· have := nxz h1; omega); (· exact ⟨nx0, nx2 (by omega)⟩))
            clear nx0 nxz nx2
            have ox6 := own_src (st5.src.ext ex) hg6 ox (by decide)
            have g56 := grownBy_trans (ext_grownBy ex (some b)) hg6
            have hsz6 := g56.size
            obtain ⟨gr, hgr⟩ : ∃ g, w6.heap.size = g := ⟨_, rfl⟩
            obtain ⟨Wr, hWr⟩ : ∃ W, W = w6.alloc (.cells #[.int .i64 (q : Int), .slice (some ⟨gx, 0, none⟩) 2 2, .slice none 0 0, .slice none 0 0, .int .i64 nx] 43) := ⟨_, rfl⟩
            have er : Ext w6 Wr := by rw [hWr]; exact Ext.alloc _ _
            have br : Blk Wr gr 43 #[.int .i64 (q : Int), .slice (some ⟨gx, 0, none⟩) 2 2, .slice none 0 0, .slice none 0 0, .int .i64 nx] := by rw [hWr]; exact Blk.new _ _ _ _ hgr
            have sti : InM B b 0 (8 + 100 * q + 25 * n + 4 + 4 * 0) gr w5 (q : Int) nx [(n : Int) / 2, (n : Int) % 2] [] [] (.slice (some ⟨gx, 0, none⟩) 2 2) (.slice none 0 0) (.slice none 0 0) Wr :=
              ⟨br, ⟨ownsRow_ext ox6 er, World.ownsRow_nil .., World.ownsRow_nil .., fun q h => by simp [Value.ownBlock], fun q h => by simp [Value.ownBlock] at h, fun q h => by simp [Value.ownBlock] at h⟩, (hs6.ext er).mono (by omega), grownBy_trans g56 (ext_grownBy er _), by omega⟩
            have HSTK := Lib.hid st5
            have HB1o : B ≤ w5.heap.size := Nat.le_trans HB.out st5.grown.size
            have HB2o : b < w5.heap.size := Nat.lt_of_lt_of_le HBL.out st5.grown.size
            have HGX := Lib.hid hgx
            clear bx ox ox6 hs6 hg6 st5 er br ex hWx hgx g56
            go_wp2_with fail
            try rw [← hWr]
            try rw [hgr]
            clear hWr hgr hsz6
            go_loopw [9] (fun u wr => ∃ (i : Nat) (a2 a3 : List Int) (v2 v3 : Value), i ≤ 2 ∧ u = .int .i64 (i : Int) ∧ InM B b 0 (8 + 100 * q + 25 * n + 4 + 4 * i) gr w5 (q : Int) nx [(n : Int) / 2, (n : Int) % 2] a2 a3 (.slice (some ⟨gx, 0, none⟩) 2 2) v2 v3 wr ∧ Hid (a2.length = i ∧ a3.length = i ∧ (∀ z ∈ a2, 0 ≤ z ∧ z ≤ 1) ∧ (∀ z ∈ a3, -1 ≤ z ∧ z ≤ 1))) (fun u _ => (2 - intOf u).toNat)
            case atStart => exact ⟨0, [], [], _, _, by omega, rfl, sti, Lib.hid ⟨rfl, rfl, by simp, by simp⟩⟩
            case round =>
              clear sti
              obtain ⟨i, a2, a3, v2, v3, hi2, rfl, sti, HLEN⟩ := hrel
              have HLN : Hid (a2.length ≤ 2 ∧ a3.length ≤ 2) := Lib.hid (by have := HLEN.out; omega)
              obtain ⟨B2, f2, rfl, _, _⟩ := sti.r3.o2.ints.form
              obtain ⟨B3, f3, rfl, _, _⟩ := sti.r3.o3.ints.form
              by_cases hlt : i < 2
              · have hd : decide ((i : Int) < 2) = true := decide_eq_true (by omega)
                go_wp2_with fail
                clear hd
                have zDb := Ext.drew wr
                have zrb : wr.drew.cell? ⟨gr, 2, none⟩ = some (.slice B2 a2.length f2) := sti.rul.cell 2
                refine wp_region_ordTS (fun x : World => x.cell? ⟨gr, 2, none⟩ = some (.slice B2 a2.length f2)) 5 (readsT [0, 1, 2] (.stir 3 (.stir 4 .done))) (by kernel_rfl) (by kernel_rfl) (fun _ _ _ _ _ h => h) zrb ?_
                simp only [readsT]
                iterate 3 (refine wpOrdT_read (v := ?_) (by rfl) (Or.inl ⟨by rfl, fun x hx => ?_⟩) ?_; rotate_left; (· have a1 : x.cell? _ = _ := hx; go_simp; try with_reducible rfl); try simp only [Act.put, List.setIfInBounds_toArray, List.set_cons_zero, List.set_cons_succ])
                refine wpOrdT_keep (by rfl) (fun K hK => ?_)
                go_simp
                go_at_call 12
                refine (pick_c B b _ 2 wr.drew (sti.src.ext zDb) (by omega)).mono ?_
                rintro e wpb ⟨⟨zb, rfl, zb0, _, zb2⟩, hsb, hgb⟩
                have HZb : Hid (0 ≤ zb ∧ zb < 2) := Lib.hid ⟨zb0, zb2 (by omega)⟩
                have spb := (sti.ext zDb).src' (d' := 8 + 100 * q + 25 * n + 4 + 4 * i + 2) (hsb.mono (by omega)) hgb
                refine hK _ _ (spb.rul.cell 2) ?_
                clear hK K
                try simp only [Act.put, List.setIfInBounds_toArray, List.set_cons_zero, List.set_cons_succ]
                refine wpOrdT_keep (by rfl) (fun K hK => ?_)
                go_simp
                have eAb := Ext.alloc wpb (.cells #[.int .i64 zb] 2)
                refine hK _ _ (eAb.cell (spb.rul.cell 2)) ?_
                clear hK K
                try simp only [Act.put, List.setIfInBounds_toArray, List.set_cons_zero, List.set_cons_succ]
                refine wpOrdT_done ?_
                try simp only [List.drop_succ_cons, List.drop_zero]
                have sqb := spb.ext eAb
                have hob : (wpb.alloc (.cells #[.int .i64 zb] 2)).ownsRow w5.heap.size 2 1 (.slice B2 a2.length f2) a2.length (ivs a2) := sqb.r3.o2
                have hbb : w5.heap.size ≤ (wpb.alloc (.cells #[.int .i64 zb] 2)).heap.size := sqb.grown.size
                have hszb : (wpb.alloc (.cells #[.int .i64 zb] 2)).heap.size = wpb.heap.size + 1 := by simp
                clear zrb hsb hgb spb sti eAb zb0 zb2
                go_wp2_with (at_builtin; refine wpList_append_own_at _ rfl _ _ 34 rfl w5.heap.size 2 i0 (.int .i64 0) 1 8 Tryz.underlying34 hi hz0' hz1' hz2' rfl (by decide) _ _ _ rfl hob ⟨wpb.heap.size, 0, none⟩ 1 1 [.int .i64 zb] rfl rfl (cell_one_new _ _ _) ?c2 ?c3 ?c4 ?c5 ?_)
                case c2 => intro u hu; simp at hu; subst hu; rfl
                case c3 => unfold maxLen; have := HLN.out; omega
                case c4 => have := HLN.out; omega
                case c5 => exact hbb
                intro vb w7b hownb hgrb _ hlocb
                have hlocb' : vb.ownBlock = ((.slice B2 a2.length f2) : Value).ownBlock ∨ vb.ownBlock = some (wpb.alloc (.cells #[.int .i64 zb] 2)).heap.size := by first | exact hlocb | (rw [hszb]; exact hlocb)
                obtain ⟨Ab, cb1, rfl, _, _, _⟩ := (ownsRow_row hownb).form
                obtain ⟨snb, bnb⟩ := sqb.put2 (a1' := a2 ++ [zb]) HB1o HB2o (by simpa [OwnInts, ivs_append, ivs] using hownb) hgrb hlocb'
                have cb := bnb.cell
                have cf := bnb.frozen
                clear sqb hob hbb hszb hownb hgrb hlocb hlocb' bnb zDb
                go_wp2_with fail
                generalize hwA : w7b.setCell ⟨gr, 2, none⟩ (.slice Ab (a2.length + 1) cb1) = wB at *
                clear hwA cb cf
                have zDc := Ext.drew wB
                have zrc : wB.drew.cell? ⟨gr, 3, none⟩ = some (.slice B3 a3.length f3) := snb.rul.cell 3
                refine wp_region_ordTS (fun x : World => x.cell? ⟨gr, 3, none⟩ = some (.slice B3 a3.length f3)) 6 (readsT [0, 1, 2] (.stir 3 (readsT [4] (.stir 5 .done)))) (by kernel_rfl) (by kernel_rfl) (fun _ _ _ _ _ h => h) zrc ?_
                simp only [readsT]
                iterate 3 (refine wpOrdT_read (v := ?_) (by rfl) (Or.inl ⟨by rfl, fun x hx => ?_⟩) ?_; rotate_left; (· have a1 : x.cell? _ = _ := hx; go_simp; try with_reducible rfl); try simp only [Act.put, List.setIfInBounds_toArray, List.set_cons_zero, List.set_cons_succ])
                refine wpOrdT_keep (by rfl) (fun K hK => ?_)
                go_simp
                go_at_call 12
                refine (pick_c B b _ 3 wB.drew (snb.src.ext zDc) (by omega)).mono ?_
                rintro e wpc ⟨⟨zc, rfl, zc0, _, zc2⟩, hsc, hgc⟩
                have HZc : Hid (0 ≤ zc ∧ zc < 3) := Lib.hid ⟨zc0, zc2 (by omega)⟩
                have hwz : IntKind.i64.wrap (zc - 1) = zc - 1 := IntWalk.i64_in _ (by have := HZc.out; omega)
                have spc := (snb.ext zDc).src' (d' := 8 + 100 * q + 25 * n + 4 + 4 * i + 4) (hsc.mono (by omega)) hgc
                refine hK _ _ (spc.rul.cell 3) ?_
                clear hK K
                try simp only [Act.put, List.setIfInBounds_toArray, List.set_cons_zero, List.set_cons_succ]
                refine wpOrdT_read (v := ?_) (by rfl) (Or.inl ⟨by rfl, fun x hx => ?_⟩) ?_
                rotate_left
                · go_simp; try with_reducible rfl
                try simp only [Act.put, List.setIfInBounds_toArray, List.set_cons_zero, List.set_cons_succ]
                refine wpOrdT_keep (by rfl) (fun K hK => ?_)
                go_simp
                have eAc := Ext.alloc wpc (.cells #[.int .i64 (zc - 1)] 2)
                refine hK _ _ (eAc.cell (spc.rul.cell 3)) ?_
                clear hK K
                try simp only [Act.put, List.setIfInBounds_toArray, List.set_cons_zero, List.set_cons_succ]
                refine wpOrdT_done ?_
                try simp only [List.drop_succ_cons, List.drop_zero]
                have sqc := spc.ext eAc
                have hoc : (wpc.alloc (.cells #[.int .i64 (zc - 1)] 2)).ownsRow w5.heap.size 2 1 (.slice B3 a3.length f3) a3.length (ivs a3) := sqc.r3.o3
                have hbc : w5.heap.size ≤ (wpc.alloc (.cells #[.int .i64 (zc - 1)] 2)).heap.size := sqc.grown.size
                have hszc : (wpc.alloc (.cells #[.int .i64 (zc - 1)] 2)).heap.size = wpc.heap.size + 1 := by simp
                clear zrc hsc hgc spc snb eAc zc0 zc2
                go_wp2_with (at_builtin; refine wpList_append_own_at _ rfl _ _ 34 rfl w5.heap.size 2 i0 (.int .i64 0) 1 8 Tryz.underlying34 hi hz0' hz1' hz2' rfl (by decide) _ _ _ rfl hoc ⟨wpc.heap.size, 0, none⟩ 1 1 [.int .i64 (zc - 1)] rfl rfl (cell_one_new _ _ _) ?c2 ?c3 ?c4 ?c5 ?_)
                case c2 => intro u hu; simp at hu; subst hu; rfl
                case c3 => unfold maxLen; have := HLN.out; omega
                case c4 => have := HLN.out; omega
                case c5 => exact hbc
                intro vc w7c hownc hgrc _ hlocc
                have hlocc' : vc.ownBlock = ((.slice B3 a3.length f3) : Value).ownBlock ∨ vc.ownBlock = some (wpc.alloc (.cells #[.int .i64 (zc - 1)] 2)).heap.size := by first | exact hlocc | (rw [hszc]; exact hlocc)
                obtain ⟨Ac, cc, rfl, _, _, _⟩ := (ownsRow_row hownc).form
                obtain ⟨snc, bnc⟩ := sqc.put3 (a1' := a3 ++ [(zc - 1)]) HB1o HB2o (by simpa [OwnInts, ivs_append, ivs] using hownc) hgrc hlocc'
                have cb := bnc.cell
                have cf := bnc.frozen
                clear sqc hoc hbc hszc hownc hgrc hlocc hlocc' bnc zDc
                go_wp2_with fail
                have HSN := Lib.hid snc
                clear snc
                go_roundw
                case rel => exact ⟨i + 1, _, _, _, _, by omega, by go_num, by have := HSN.out; simpa [Nat.mul_add, Nat.add_assoc] using this, Lib.hid (by
                  obtain ⟨l2, l3, p2, p3⟩ := HLEN.out
                  have q2 := HZb.out
                  have q3 := HZc.out
                  refine ⟨by simp [l2], by simp [l3], fun z hz => ?_, fun z hz => ?_⟩
                  · rcases List.mem_append.1 hz with h | h
                    · exact p2 z h
                    · rw [List.mem_singleton.1 h]; omega
                  · rcases List.mem_append.1 hz with h | h
                    · exact p3 z h
                    · rw [List.mem_singleton.1 h]; omega)⟩
                case measure => simp [intOf]; omega
              · have hd : decide ((i : Int) < 2) = false := decide_eq_false (by omega)
                have hie : i = 2 := by omega
                have HIE := Lib.hid hie
                have cr := sti.rul
                have hr0 := cr.cell 0
                have hr1 := cr.cell 1
                have hr2 := cr.cell 2
                have hr3 := cr.cell 3
                have hr4 := cr.cell 4
                simp only [List.getElem?_toArray, List.getElem?_cons_zero, List.getElem?_cons_succ] at hr0 hr1 hr2 hr3 hr4
                have stk6 := HSTK.out.src' (d' := 8 + 100 * q + 25 * n + 4 + 4 * i) sti.src sti.grown
                obtain ⟨Av, cv, rfl, _, _⟩ := stk6.own.form
                have hm3 := stk6.cur.cell 3
                simp only [List.getElem?_toArray, List.getElem?_cons_zero, List.getElem?_cons_succ] at hm3
                obtain ⟨W6, hW6⟩ : ∃ W6, W6 = wr.alloc (.cells #[.int .i64 (q : Int), .slice (some ⟨gx, 0, none⟩) 2 2, .slice B2 a2.length f2, .slice B3 a3.length f3, .int .i64 nx] 43) := ⟨_, rfl⟩
                have eA : Ext wr W6 := by rw [hW6]; exact Ext.alloc _ _
                have bN : Blk W6 wr.heap.size 43 #[.int .i64 (q : Int), .slice (some ⟨gx, 0, none⟩) 2 2, .slice B2 a2.length f2, .slice B3 a3.length f3, .int .i64 nx] := by rw [hW6]; exact Blk.new _ _ _ _ rfl
                have s6 := stk6.ext eA
                obtain ⟨cl, ho6, hcl⟩ := s6.own
                have hwz : wf.heap.size ≤ w5.heap.size := HSTK.out.grown.size
                have hNL : MCells wf.heap.size W6 (mcell ⟨(q : Int), [(n : Int) / 2, (n : Int) % 2], a2, a3, nx⟩ (.slice (some ⟨gx, 0, none⟩) 2 2) (.slice B2 a2.length f2) (.slice B3 a3.length f3)) [⟨(q : Int), [(n : Int) / 2, (n : Int) % 2], a2, a3, nx⟩] :=
                  MCells.one (ownsRow_base (ownsRow_ext sti.r3.o1 eA) hwz) (ownsRow_base (ownsRow_ext sti.r3.o2 eA) hwz) (ownsRow_base (ownsRow_ext sti.r3.o3 eA) hwz)
                have hrl : rs.length ≤ 8 := by have := HR.out.len; have := HC.out; omega
                have hw6s : wf.heap.size ≤ W6.heap.size := s6.grown.size
                have HRN : Hid (RulD st (4 * (q : Int) + (n : Int) + 1) (rs ++ [⟨(q : Int), [(n : Int) / 2, (n : Int) % 2], a2, a3, nx⟩])) := Lib.hid (by
                  obtain ⟨l2, l3, p2, p3⟩ := HLEN.out
                  exact HR.out.snoc (by omega) (by omega) HNX.out ⟨by omega, p2⟩ ⟨by omega, p3⟩)
                clear hie sti stk6 cr HLEN
                go_wp2_with (at_builtin; rw [← hW6]; refine wpList_append_own_at _ rfl _ _ 24 rfl wf.heap.size 43 m0i (.agg #[.int .i64 0, .slice none 0 0, .slice none 0 0, .slice none 0 0, .int .i64 0]) 5 88 Tryz.underlying24 hmi mz0 mz1 mz2 rfl (by decide) _ _ cl rfl ho6 ⟨wr.heap.size, 0, none⟩ 1 1 [.int .i64 (q : Int), .slice (some ⟨gx, 0, none⟩) 2 2, .slice B2 a2.length f2, .slice B3 a3.length f3, .int .i64 nx] rfl rfl (World.news_of_block bN) ?c2 ?c3 ?c4 ?c5 ?_)
                case c2 => intro u hu; simp at hu; rcases hu with rfl | rfl | rfl | rfl | rfl <;> rfl
                case c3 => unfold maxLen; omega
                case c4 => omega
                case c5 => exact hw6s
                intro v' w7 hown7 hg7 _ _
                have hg7' : W6.grownBy w7 (Value.slice Av rs.length cv).ownBlock := by first | exact hg7 | (rw [hW6]; exact hg7)
                have HS : OwnMR wf.heap.size w7 v' (rs ++ [⟨(q : Int), [(n : Int) / 2, (n : Int) % 2], a2, a3, nx⟩]) := OwnMR.push ho6 hcl hNL rfl hown7 hg7'
                obtain ⟨A7, c7, rfl, _, _, _⟩ := (ownsRow_row hown7).form
                obtain ⟨st7, b7⟩ := s6.put HB.out HBL.out (by omega) hwgm HS hg7'
                have HST := Lib.hid st7
                have cb := b7.cell
                have cf := b7.frozen
                clear hW6 eA bN s6 ho6 hcl hNL hown7 hg7 hg7' HS st7 b7 hr0 hr1 hr2 hr3 hr4 hm3 hd
                go_wp2_with fail
                go_roundw
                case rel => exact ⟨n + 1, _, _, by omega, by go_num, (by have := HST.out; exact ⟨this.out, this.cur, this.own, this.src.mono (by have := HIE.out; omega), this.grown⟩), Lib.hid (by have := HRN.out; rw [show (4 * (q : Int) + ((n + 1 : Nat) : Int)) = 4 * (q : Int) + (n : Int) + 1 by omega]; exact this)⟩
                case measure => simp [intOf]; omega
        · have hd : decide ((n : Int) < 4) = false := decide_eq_false hn4
          have HSTK := Lib.hid stk
          have hne : n = 4 := by omega
          have HNE := Lib.hid hne
          clear hne stk
          go_wp2_with fail
          go_roundw
          case rel => exact ⟨q + 1, rs, v, by omega, by go_num, (by have := HSTK.out; exact ⟨this.out, this.cur, this.own, this.src.mono (by have := HNE.out; omega), this.grown⟩), Lib.hid (by have := HR.out; rw [HNE.out] at this; rw [show (4 * ((q + 1 : Nat) : Int) + 0) = 4 * (q : Int) + ((4 : Nat) : Int) by omega]; exact this)⟩
          case measure => simp [intOf]; omega
    · have hd : decide ((q : Int) < st) = false := decide_eq_false hqs
      go_wp2_with fail
      have eW := Ext.alloc wr (.cells #[] 34)
      have hws0 : WdS B b 0 1000 wr [] (.slice (some ⟨wr.heap.size, 0, none⟩) 0 0) (wr.alloc (.cells #[] 34)) :=
        ⟨⟨[], ⟨by simp, .inr ⟨wr.heap.size, 0, #[], rfl, Nat.le_refl _, heap_alloc_new wr _, by simp, by unfold maxLen; omega, rfl, by simp⟩⟩, fun i hi => by simp at hi, fun i j u u' g hi => by simp at hi⟩, (stk.src.ext eW).mono (by omega), ext_grownBy eW _⟩
      have HSTK := Lib.hid stk
      have HB1 : B ≤ wr.heap.size := Nat.le_trans HB.out stk.grown.size
      have HB2 : b < wr.heap.size := Nat.lt_of_lt_of_le HBL.out stk.grown.size
      obtain ⟨wS, hwS⟩ : ∃ x, x = wr := ⟨_, rfl⟩
      subst hwS
      clear stk eW hm2 hd
      go_loopw [10, 11] (fun z u wr => ∃ (k : Nat) (ws : List (List Int)) (wv : Value), k ≤ 2 ∧ u = .int .i64 (k : Int) ∧ wv = z ∧ WdS B b 0 (1000 + 20 * k) wS ws wv wr ∧ Hid (ws.length = k ∧ ∀ x ∈ ws, Wd3 x)) (fun _ u _ => (2 - intOf u).toNat)
      case atStart => exact ⟨0, [], _, by omega, rfl, rfl, hws0, Lib.hid ⟨rfl, by simp⟩⟩
      case round =>
        clear hws0
        obtain ⟨k, ws, wv, hk, rfl, rfl, stw, HW⟩ := hrel
        by_cases hk2 : k < 2
        · have hd : decide ((k : Int) < 2) = true := decide_eq_true (by omega)
          obtain ⟨wI, hwI⟩ : ∃ x, x = wr := ⟨_, rfl⟩
          subst hwI
          have HSW := Lib.hid stw
          obtain ⟨W1, hW1⟩ : ∃ W, W = wI.alloc (.cells #[] 2) := ⟨_, rfl⟩
          have e1 : Ext wI W1 := by rw [hW1]; exact Ext.alloc _ _
          obtain ⟨gu, hgu⟩ : ∃ g, wI.heap.size = g := ⟨_, rfl⟩
          have sti : WdI B b 0 (1000 + 20 * k) wI [] (.slice (some ⟨gu, 0, none⟩) 0 0) W1 :=
            ⟨⟨by simp [ivs], .inr ⟨gu, 0, #[], rfl, by omega, by rw [hW1, ← hgu]; exact heap_alloc_new wI _, by simp, by unfold maxLen; omega, rfl, by simp [ivs]⟩⟩, stw.src.ext e1, ext_grownBy e1 _⟩
          have HB1i : B ≤ wI.heap.size := Nat.le_trans HB1 stw.grown.size
          have HB2i : b < wI.heap.size := Nat.lt_of_lt_of_le HB2 stw.grown.size
          have HGU := Lib.hid hgu
          clear e1 stw
          go_wp2_with fail
          try rw [← hW1]
          try rw [hgu]
          clear hW1 hgu hd
          refine (pick_c B b _ 4 W1 sti.src (by omega)).mono ?_
          rintro e w1 ⟨⟨x, rfl, x0, _, x2⟩, hs1, hg1⟩
          have x3 := x2 (by omega)
          clear x2
          have sti1 := sti.src' (d' := 1000 + 20 * k + 2) hs1 hg1
          obtain ⟨K, rfl⟩ := Int.eq_ofNat_of_zero_le x0
          clear sti hs1 hg1 x0
          go_wp2_with fail
          go_loopw [12, 13] (fun u i wr => ∃ (xs : List Int), xs.length ≤ K ∧ i = .int .i64 ((K - xs.length : Nat) : Int) ∧ WdI B b 0 (1000 + 20 * k + 2 + 2 * xs.length) wI xs u wr ∧ Hid (∀ z ∈ xs, 0 ≤ z ∧ z ≤ 1)) (fun _ i _ => (intOf i).toNat)
          case atStart => exact ⟨[], Nat.zero_le _, rfl, sti1, Lib.hid (fun z hz => by simp at hz)⟩
          case round =>
            clear sti1
            obtain ⟨xs, hk, rfl, stk, HA⟩ := hrel
            obtain ⟨Au, cu, rfl, _, _⟩ := stk.own.ints.form
            by_cases hlt : xs.length < K
            · have hd : decide ((0 : Int) < ((K - xs.length : Nat) : Int)) = true := by simp; omega
              go_wp2_with fail
              clear hd
              refine (pick_c B b _ 2 _ stk.src (by omega)).mono ?_
              rintro e w2 ⟨⟨z, rfl, z0, _, z2⟩, hs2, hg2⟩
              have HZ : Hid (0 ≤ z ∧ z ≤ 1) := Lib.hid (by have := z2 (by omega); omega)
              have st2 := stk.src' (d' := 1000 + 20 * k + 2 + 2 * xs.length + 2) hs2 hg2
              clear stk hs2 hg2 z2 z0
              have ho1 : w2.ownsRow wI.heap.size 2 1 (.slice Au xs.length cu) xs.length (ivs xs) := st2.own
              have ho' := ho1.alloc (.cells #[.int .i64 z] 2)
              have st3 := st2.ext (Ext.alloc w2 (.cells #[.int .i64 z] 2))
              have hs := st2.grown.size
              go_wp2_with (at_builtin; refine wpList_append_own_at _ rfl _ _ 34 rfl wI.heap.size 2 i0 (.int .i64 0) 1 8 Tryz.underlying34 hi hz0' hz1' hz2' rfl (by decide) _ _ _ rfl ho' ⟨w2.heap.size, 0, none⟩ 1 1 [.int .i64 z] rfl rfl (cell_one_new _ _ _) ?c2 ?c3 ?c4 ?c5 ?_)
              case c2 => intro u hu; simp at hu; subst hu; rfl
              case c3 => unfold maxLen; omega
              case c4 => omega
              case c5 => simp; omega
              intro v' w4 hown4 hg4 _ hloc
              obtain ⟨A', c', rfl, _, _, _⟩ := (ownsRow_row hown4).form
              have st4 := st3.snoc (ys := xs ++ [z]) HB1i HB2i (by simpa [OwnInts, ivs_append, ivs] using hown4) hg4
              have hKk : ((K - xs.length : Nat) : Int) - 1 = ((K - (xs.length + 1) : Nat) : Int) := by omega
              have HS := Lib.hid st4
              clear st2 st3 st4 ho' ho1 hown4 hg4
              go_wp2
              go_roundw
              case rel => exact ⟨xs ++ [z], by simp; omega, by first | (rw [hKk]; simp; done) | (simp; done) | (simp; omega), by simpa [Nat.mul_add, Nat.add_assoc] using HS.out, Lib.hid (fun y hy => by
                rcases List.mem_append.1 hy with hy | hy
                · exact HA.out y hy
                · rw [List.mem_singleton.1 hy]; exact HZ.out)⟩
              case measure => simp [intOf]; omega
            · have hke : xs.length = K := by omega
              have HKE := Lib.hid hke
              have hd : decide ((0 : Int) < ((K - xs.length : Nat) : Int)) = false := by simp; omega
              have hgw := HSW.out
              have hgI := stk.grown
              obtain ⟨vs0, p1, p2, p3⟩ := hgw.own
              have o1 := own_src hgw.src hgI p1 (by decide)
              have o2 : ∀ i, (h : i < ws.length) → ∃ u, vs0[i]? = some u ∧ OwnInts wS.heap.size wr u ws[i] := fun i hi => by obtain ⟨u, e, o⟩ := p2 i hi; exact ⟨u, e, own_src hgw.src hgI o (by decide)⟩
              obtain ⟨Aw, cw, hwv, _, _⟩ := (ownsRow_row o1).form
              subst hwv
              have hltb : ∀ (i : Nat) (u' : Value) (g : Nat), vs0[i]? = some u' → u'.ownBlock = some g → g < wI.heap.size := fun i u' g hu hg => by
                have hi : i < ws.length := by
                  have := (List.getElem?_eq_some_iff.1 hu).1
                  have hl := p1.1
                  omega
                obtain ⟨u2, e2, o⟩ := p2 i hi
                rw [hu] at e2
                injection e2 with e2
                subst e2
                exact (World.ownsRow.lt o g hg).2
              have eB := Ext.alloc wr (.cells #[.slice Au xs.length cu] 34)
              have stb := stk.ext eB
              have o1b := ownsRow_ext o1 eB
              have hszb : wS.heap.size ≤ (wr.alloc (.cells #[.slice Au xs.length cu] 34)).heap.size := Nat.le_trans hgw.grown.size (Nat.le_trans hgI.size (by simp))
              have hwl : ws.length ≤ 2 := by have := HW.out.1; omega
              clear hke stk hgI o1 p1 p2
              generalize hLL : xs.length = nl at *
              have HLL := Lib.hid hLL
              clear hLL
              go_wp2_with (at_builtin; refine wpList_append_own_at _ rfl _ _ 27 rfl wS.heap.size 34 r0i (.slice none 0 0) 1 24 Tryz.underlying27 hri rz0 rz1 rz2 rfl (by decide) _ _ _ rfl o1b ⟨wr.heap.size, 0, none⟩ 1 1 [.slice Au nl cu] rfl rfl (cell_one_new _ _ _) ?c2 ?c3 ?c4 ?c5 ?_)
              case c2 => intro u hu; simp at hu; subst hu; rfl
              case c3 => unfold maxLen; omega
              case c4 => omega
              case c5 => exact hszb
              intro v' w7 hown7 hg7 _ _
              obtain ⟨A7, c7, rfl, _, _, _⟩ := (ownsRow_row hown7).form
              have HFS := Lib.hid (WdS.snoc HB1 HB2 hgw o1b (fun i hi => by obtain ⟨u, e, o⟩ := o2 i hi; exact ⟨u, e, ownsRow_ext o eB⟩) p3 stb hltb hown7 hg7)
              clear hgw o1b o2 p3 stb hown7 hg7 eB hltb hszb hd
              go_wp2_with fail
              go_roundw
              case rel => exact ⟨k + 1, ws ++ [xs], _, by omega, by go_num, rfl, (by have := HFS.out; exact ⟨this.own, this.src.mono (by have := HKE.out; omega), this.grown⟩), Lib.hid ⟨by simp [HW.out.1], fun x hx => by
                rcases List.mem_append.1 hx with h | h
                · exact HW.out.2 x h
                · rw [List.mem_singleton.1 h]; exact ⟨by have := HKE.out; have := HLL.out; omega, HA.out⟩⟩⟩
              case measure => simp [intOf]; omega
        · have hd : decide ((k : Int) < 2) = false := decide_eq_false (by omega)
          have stk := HSTK.out.src' stw.src stw.grown
          obtain ⟨Av, cv, rfl, _, _⟩ := stk.own.form
          have hgOg : wf.heap.size ≤ wf.heap.size := Nat.le_refl _
          have HFI : Hid (∀ u0 u1 u2 u3, OwnMR w.heap.size ((((wr.setCell ⟨gO, 0, none⟩ u0).setCell ⟨gO, 1, none⟩ u1).setCell ⟨gO, 2, none⟩ u2).setCell ⟨gO, 3, none⟩ u3) (.slice Av rs.length cv) rs ∧ OwnIntRows w.heap.size ((((wr.setCell ⟨gO, 0, none⟩ u0).setCell ⟨gO, 1, none⟩ u1).setCell ⟨gO, 2, none⟩ u2).setCell ⟨gO, 3, none⟩ u3) wv ws ∧ Ext w ((((wr.setCell ⟨gO, 0, none⟩ u0).setCell ⟨gO, 1, none⟩ u1).setCell ⟨gO, 2, none⟩ u2).setCell ⟨gO, 3, none⟩ u3)) := Lib.hid fun u0 u1 u2 u3 => by
            have x1 := HX.out.size
            have x2 := HXF.out.size
            have x3 := HSTK.out.grown.size
            have hg := HGO.out
            have c0 := stk.out
            have c1 := c0.set_ 0 u0
            have c2 := c1.set_ 1 u1
            have c3 := c2.set_ 2 u2
            refine ⟨((((stk.own.far c0 (by decide) (by decide) 0 u0).far c1 (by decide) (by decide) 1 u1).far c2 (by decide) (by decide) 2 u2).far c3 (by decide) (by decide) 3 u3).base (by omega),
              rows_base (rows_far (rows_far (rows_far (rows_far stw.own c0 (by decide) (by decide) 0 u0) c1 (by decide) (by decide) 1 u1) c2 (by decide) (by decide) 2 u2) c3 (by decide) (by decide) 3 u3) (by omega), ?_⟩
            have e0 : Ext w wf := HX.out.trans HXF.out
            have e1 : Ext w wr := e0.grown stk.grown (fun k hk => by injection hk with hk; have := HB0.out; omega)
            have hle : w.heap.size ≤ gO := Nat.le_of_eq hg
            exact (((e1.setCell (p := ⟨gO, 0, none⟩) hle u0).setCell (p := ⟨gO, 1, none⟩) hle u1).setCell (p := ⟨gO, 2, none⟩) hle u2).setCell (p := ⟨gO, 3, none⟩) hle u3
          have HMU : Hid (multiOk ⟨2, 2, st, rs⟩ = true) := Lib.hid (HR.out.multi (by have := HC.out; omega) HC.out)
          have HWL : Hid (ws.length = 2 ∧ ∀ x ∈ ws, Wd3 x) := Lib.hid ⟨by have := HW.out.1; omega, HW.out.2⟩
          have hq0 := stk.cur.cell 0
          have hq1 := stk.cur.cell 1
          have hq2 := stk.cur.cell 2
          have hq3 := stk.cur.cell 3
          simp only [List.getElem?_toArray, List.getElem?_cons_zero, List.getElem?_cons_succ] at hq0 hq1 hq2 hq3
          have ob := stk.out.cell
          have of_ := stk.out.frozen
          have HR8 : Hid (rs.length ≤ 8) := Lib.hid (by have := HR.out.len; have := HC.out; omega)
          generalize hLL : rs.length = nl at *
          have HLL := Lib.hid hLL
          clear hLL stk stw HSTK HW HR
          go_wp2_with fail
          refine bodyPost_ret (v := .tuple #[.agg #[.int .i64 2, .int .i64 2, .int .i64 st, .slice Av nl cv], wv]) (by simp [results, Tryz.results5, go_sem, ob]) rfl ⟨st, rs, Av, cv, wv, ws, by rw [HLL.out], ?_, HMU.out, ?_, HWL.out.1, HWL.out.2, ⟨HC.out.2, by rw [HLL.out]; exact HR8.out⟩, ?_⟩
          · rw [HLL.out]; exact (HFI.out _ _ _ _).1
          · exact (HFI.out _ _ _ _).2.1
          · exact (HFI.out _ _ _ _).2.2
end Go.Proofs.YtgeckhjkahnonaaGreatDoor
end
section
set_option linter.unusedSimpArgs false
set_option linter.unusedVariables false
namespace Go.Proofs.YtgeckhjkahnonaaGreatDoor
open Go Go.RowKit Go.Proofs Go.Maps
set_option maxHeartbeats 400000
set_option maxRecDepth 20000 in
set_option maxHeartbeats 4000000 in
theorem decodeOneTape_c (base : Nat) (w : World) (m : MultiD) (rvm : Value) (bx : Nat) (sy' N : Int) (rs : List RuleD) (ps : List MP) (rv pv : Value) (bm : Nat) (c : ConfD) (lv qv : Value) (i : Nat) (p : MP)
    (h : PlM base w bx sy' N rs ps rv pv bm) (hm : multiOk m = true) (hq : c.q = i) (hi : ps[i]? = some p) (hp : WOk m p) (hl : Ints w lv c.l) (hr : Ints w qv c.r) (fl : Flat lv) (fr : Flat qv) (hL : c.l.length ≤ 200) (hR : c.r.length ≤ 200)
    (hB1 : Hid (∀ z ∈ c.l, 0 ≤ z ∧ z ≤ 2 * m.sy - 1)) (hB2 : Hid (∀ z ∈ c.r, 0 ≤ z ∧ z ≤ 2 * m.sy - 1)) :
    Calls Tryz.prog 25 #[.agg #[.int .i64 m.tp, .int .i64 m.sy, .int .i64 m.st, rvm], .pointer (some ⟨bx, 0, none⟩), .agg #[.int .i64 c.q, lv, qv]] w (DecRes w (decOne m p c)) := by
  obtain ⟨i0, hi0, hz0, hz1, hz2⟩ := info_parts tapeInfo
  obtain ⟨⟨tp1, tp2⟩, ⟨y1, y2⟩, _⟩ := multi_all hm
  have hil : i < ps.length := (List.getElem?_eq_some_iff.1 hi).1
  obtain ⟨Ap, cp, rfl, hp1, hp2, _⟩ := (ownsRow_row h.places).form
  obtain ⟨gp, rfl, _, _, hP⟩ := placesM_at h.places hi
  obtain ⟨Al, cl1, rfl, _, _⟩ := hl.form
  obtain ⟨Ar, cr, rfl, _, _⟩ := hr.form
  have ht0 : 0 ≤ p.t := hp.t0
  have ht1 : p.t < m.tp := hp.t1
  obtain ⟨R, hR⟩ : ∃ R, R = decOne m p c := ⟨_, rfl⟩
  rw [← hR]
  have HR := Lib.hid hR
  obtain ⟨g, hg⟩ : ∃ g, w.heap.size = g := ⟨_, rfl⟩
  obtain ⟨W, hW⟩ : ∃ W, W = ((w.alloc (.cells #[.int .i64 m.tp, .int .i64 m.sy, .int .i64 m.st, rvm] 26)).alloc (.cells #[.int .i64 c.q, .slice Al c.l.length cl1, .slice Ar c.r.length cr] 60)).alloc (.cells #[.int .i64 0, .slice none 0 0] 48) := ⟨_, rfl⟩
  have hXW : Ext w W := by rw [hW]; exact ((Ext.alloc _ _).trans (Ext.alloc _ _)).trans (Ext.alloc _ _)
  have bM : Blk W g 26 #[.int .i64 m.tp, .int .i64 m.sy, .int .i64 m.st, rvm] := by rw [hW]; exact ((Blk.new _ _ _ _ hg).alloc _).alloc _
  have bC : Blk W (g + 1) 60 #[.int .i64 c.q, .slice Al c.l.length cl1, .slice Ar c.r.length cr] := by rw [hW]; exact (Blk.new _ _ _ _ (by simp [hg])).alloc _
  have bO : Blk W (g + 1 + 1) 48 #[.int .i64 0, .slice none 0 0] := by rw [hW]; exact Blk.new _ _ _ _ (by simp [hg])
  have hWs : W.heap.size = g + 1 + 1 + 1 := by rw [hW]; simp [hg]
  have hb3 : w.heap.size ≤ g + 1 + 1 := by omega
  have zD := Ext.drew W
  have hXD := hXW.trans zD
  have x3 := (h.blk.ext hXD).cell 3
  have c0 := (bC.ext zD).cell 0
  have p0 := hXD.cell ((hP 0 (by omega)).trans (by rfl))
  have p1 := hXD.cell ((hP 1 (by omega)).trans (by rfl))
  have p2 := hXD.cell ((hP 2 (by omega)).trans (by rfl))
  have p3 := hXD.cell ((hP 3 (by omega)).trans (by rfl))
  have p4 := hXD.cell ((hP 4 (by omega)).trans (by rfl))
  have p5 := hXD.cell ((hP 5 (by omega)).trans (by rfl))
  have p6 := hXD.cell ((hP 6 (by omega)).trans (by rfl))
  have p7 := hXD.cell ((hP 7 (by omega)).trans (by rfl))
  simp only [List.getElem?_toArray, List.getElem?_cons_zero, List.getElem?_cons_succ, Nat.add_zero] at x3 c0 p0
  have i1 : (0 : Int) ≤ (i : Int) := by omega
  have i2 : (i : Int) < (ps.length : Int) := by omega
  rw [hq] at c0
  rw [hq] at hW
  rw [hq]
  have HQ := Lib.hid hq
  have HP := Lib.hid hp
  have HH := Lib.hid h
  clear hR hi hq hP hp h
  obtain ⟨pk, pa, pt, pc, pf0, pf1, pf2, pd⟩ := p
  simp only at p0 p1 p2 p3 p4 p5 p6 p7 ht0 ht1
  go_enter Tryz.func25, Tryz.ntmps25
  go_upto_region 1 with fail
  try rw [← hW]
  try rw [hg]
  clear hW
  refine wp_region_ordT 9 (readsT [0, 1, 2, 3, 4, 5, 6, 7] (.stir 8 .done)) (by kernel_rfl) (by kernel_rfl) (fun _ _ _ _ _ h => h) ?_
  simp only [readsT]
  iterate 8 (refine wpOrdT_read (v := ?_) (by rfl) (Or.inl ⟨by rfl, fun x hx => ?_⟩) ?_; rotate_left; (· have u0 := hx.cell p0; have u1 := hx.cell p1; have u2 := hx.cell p2; have u3 := hx.cell p3; have u4 := hx.cell p4; have u5 := hx.cell p5; have u6 := hx.cell p6; have u7 := hx.cell p7; have u8 := hx.cell x3; have u9 := hx.cell c0; go_simp; try with_reducible rfl); try simp only [Act.put, List.setIfInBounds_toArray, List.set_cons_zero, List.set_cons_succ])
  refine wpOrdT_stir (by rfl) (fun K hK => ?_)
  go_simp
  refine hK _ _ (Ext.alloc _ _) ?_
  clear hK K
  try simp only [Act.put, List.setIfInBounds_toArray, List.set_cons_zero, List.set_cons_succ]
  refine wpOrdT_done ?_
  try simp only [List.drop_succ_cons, List.drop_zero]
  have hDs : W.drew.heap.size = g + 1 + 1 + 1 := hWs
  obtain ⟨V, hV⟩ : ∃ V, V = (W.alloc (.cells #[.int .i64 pk, .int .i64 pa, .int .i64 pt, .int .i64 pc, .int .i64 pf0, .int .i64 pf1, .int .i64 pf2, .int .i64 pd] 73)).drew := ⟨_, rfl⟩
  have hXV : Ext W V := by rw [hV]; exact (Ext.alloc _ _).trans (Ext.drew _)
  have bP : Blk V (g + 1 + 1 + 1) 73 #[.int .i64 pk, .int .i64 pa, .int .i64 pt, .int .i64 pc, .int .i64 pf0, .int .i64 pf1, .int .i64 pf2, .int .i64 pd] := by rw [hV]; exact (Blk.new _ _ _ _ hWs).drew
  have hVs : V.heap.size = g + 1 + 1 + 1 + 1 := by
    have hh : ∀ o, (W.alloc o).drew.heap.size = g + 1 + 1 + 1 + 1 := fun o => by show (W.alloc o).heap.size = _; simp [hWs]
    rw [hV]; exact hh _
  clear p0 p1 p2 p3 p4 p5 p6 p7 x3 c0
  have q0 := bP.cell 0
  have q1 := bP.cell 1
  have q2 := bP.cell 2
  have m0 := (bM.ext hXV).cell 0
  simp only [List.getElem?_toArray, List.getElem?_cons_zero, List.getElem?_cons_succ] at q0 q1 q2 m0
  have hXVw : Ext w V := hXW.trans hXV
  have bOV := bO.ext hXV
  go_upto_region 2 with fail
  try rw [← hV]
  try rw [hDs]
  clear hV hDs zD hXD
  by_cases hk : pk = 0
  · subst hk
    have HK : Hid (R = match decTapes m c pt m.tp.toNat with | some ts => (⟨pa, ts⟩, 0) | none => (⟨0, []⟩, 9)) := Lib.hid (by rw [HR.out]; unfold decOne; simp only [if_true]; cases decTapes m c pt m.tp.toNat <;> rfl)
    obtain ⟨U, hU⟩ : ∃ U, U = V.alloc (.cells #[.int .i64 pa, .slice none 0 0] 48) := ⟨_, rfl⟩
    have hXU : Ext V U := by rw [hU]; exact Ext.alloc _ _
    have bT : Blk U (g + 1 + 1 + 1 + 1) 48 #[.int .i64 pa, .slice none 0 0] := by rw [hU]; exact Blk.new _ _ _ _ hVs
    have m0U := hXU.cell m0
    have HM0 := Lib.hid m0
    have HQ2 := Lib.hid q2
    have HXV := Lib.hid hXVw
    have HBM := Lib.hid (bM.ext hXV)
    have HBC := Lib.hid (bC.ext hXV)
    have HBO := Lib.hid (bO.ext hXV)
    have HLW := Lib.hid hl
    have HRW := Lib.hid hr
    have HMi := Lib.hid hm
    have HVS := Lib.hid hVs
    clear bM bC bO bOV hXV hXW hl hr hm
    go_wp2_with fail
    try rw [← hU]
    clear hU
    go_loopw [32] (fun u wr => ∃ (k : Nat) (ts : List TapeD) (v : Value) (cl : List Value), (k : Int) ≤ m.tp ∧ u = .int .i64 (k : Int) ∧ decTapes m c pt k = some ts ∧ CpM V ts ts.length v cl wr ∧ Ext V wr ∧ Blk wr (g + 1 + 1 + 1 + 1) 48 #[.int .i64 pa, v]) (fun u _ => m.tp.toNat - (intOf u).toNat)
    case atStart => exact ⟨0, [], _, [], by show (0 : Int) ≤ m.tp; omega, rfl, rfl, CpM.void _ _, hXU, bT⟩
    case round =>
      clear hXU bT m0U m0 q0 q1 q2 hVs
      obtain ⟨k, ts, v, cl, hk, rfl, hdt, st, hx, bT⟩ := hrel
      obtain ⟨Av, cv, rfl, _, _, _⟩ := (ownsRow_row st.own).form
      have hXwr := HXV.out.trans hx
      by_cases hlt : (k : Int) < m.tp
      · have HD := Lib.hid hdt
        clear hdt hk
        have b0 := (HBM.out.ext hx).cell 0
        have b1 := (HBM.out.ext hx).cell 1
        have b2 := (HBM.out.ext hx).cell 2
        have b3 := (HBM.out.ext hx).cell 3
        have d0 := (HBC.out.ext hx).cell 0
        have d1 := (HBC.out.ext hx).cell 1
        have d2 := (HBC.out.ext hx).cell 2
        have e2 := hx.cell HQ2.out
        simp only [List.getElem?_toArray, List.getElem?_cons_zero, List.getElem?_cons_succ] at b0 b1 b2 b3 d0 d1 d2
        have TC := tapeCells_c m rvm c (.slice Al c.l.length cl1) (.slice Ar c.r.length cr) pt (k : Int) wr HMi.out (HLW.out.ext hXwr) (HRW.out.ext hXwr) fl fr hL hR ht0 ht1 (by omega) hlt
        have hlen : (lineC m c pt (k : Int)).length ≤ 400 := by
          unfold lineC
          have h1 := lineT_len m.tp.toNat (frstC m.tp pt (k : Int) c.l.length) (cellsC c) (cellsC c).length
          have h2 : (cellsC c).length = c.l.length + c.r.length := by simp [cellsC]
          omega
        have HME : Hid (∀ z ∈ lineC m c pt (k : Int), 0 ≤ z ∧ z ≤ 2 * m.sy - 1) := Lib.hid (lineC_mem (by omega) hB1.out hB2.out)
        have HFA : Hid (tapeDec m.sy (lineC m c pt (k : Int)) = none → R = (⟨0, []⟩, 9)) := Lib.hid fun hh => by rw [HK.out, decTapes_fail hh (show k < m.tp.toNat by omega)]
        have HGO : Hid (∀ t, tapeDec m.sy (lineC m c pt (k : Int)) = some t → decTapes m c pt (k + 1) = some (ts ++ [t])) := Lib.hid fun t ht => decTapes_next HD.out ht
        obtain ⟨line, hli⟩ : ∃ line, lineC m c pt (k : Int) = line := ⟨_, rfl⟩
        rw [hli] at TC hlen HME HFA HGO
        clear hli
        go_wp2_with fail
        refine TC.mono ?_
        rintro e w1 ⟨u, rfl, ou, hx1⟩
        clear TC
        have hb1 : w1.cell? ⟨g, 1, none⟩ = some (.int .i64 m.sy) := hx1.cell b1
        have hX1 := hx.trans hx1
        have bO1 := HBO.out.ext hX1
        have hXw1 := HXV.out.trans hX1
        clear b0 b1 b2 b3 d0 d1 d2 e2
        have IX := idxM_c u line g m.sy w1 ou.ints hb1 (by omega)
        obtain ⟨Au, cu, rfl, hcu1, hcu2⟩ := id ou.ints.form
        cases hfi : line.findIdx? (markB m.sy) with
        | none =>
          have hz : ixM m.sy line = -1 := by unfold ixM; rw [hfi]
          have HE : Hid (R = (⟨0, []⟩, 9)) := Lib.hid (HFA.out (tapeDec_none hfi))
          rw [hz] at IX
          clear hfi hz
          have ob := bO1.cell
          have of_ := bO1.frozen
          go_wp2_with fail
          refine IX.mono ?_
          rintro e w' ⟨rfl, rfl⟩
          clear IX
          go_wp2_with fail
          rw [HE.out]
          exact bodyPost_ret (v := .tuple #[.agg #[.int .i64 0, .slice none 0 0], .int .i64 9]) (by simp [results, Tryz.results25, go_sem, ob]) rfl (DecRes.fail hb3 hXw1 _ _)
        | some hd =>
          have hz : ixM m.sy line = (hd : Int) := by unfold ixM; rw [hfi]
          obtain ⟨hdl, hmk, _⟩ := List.findIdx?_eq_some_iff_getElem.1 hfi
          obtain ⟨gu, rfl, hgu1, hgu2⟩ := own_at ou (by omega)
          rw [hz] at IX
          have hA : ∃ (Z : Value), (cu = hd + 1 → Z = .slice (some ⟨gu, 0, none⟩) 0 0) ∧ (cu ≠ hd + 1 → Z = .slice (some ⟨gu, hd + 1, none⟩) (line.length - (hd + 1)) (cu - (hd + 1))) ∧ Ints w1 Z (line.drop (hd + 1)) := by
            by_cases hcc : cu = hd + 1
            · refine ⟨_, fun _ => rfl, fun e => (e hcc).elim, ?_⟩
              have : line.drop (hd + 1) = [] := List.drop_eq_nil_of_le (by omega)
              rw [this]
              exact ints_void _
            · refine ⟨_, fun e => (hcc e).elim, fun _ => rfl, ?_⟩
              have := ints_dropA ou.ints rfl (hd + 1) (by omega)
              rwa [Nat.zero_add] at this
          obtain ⟨Z, hZ1, hZ2, hZi⟩ := hA
          have HS := hasM_c Z (line.drop (hd + 1)) g m.sy w1 hZi hb1 (by rw [List.length_drop]; omega)
          obtain ⟨x, hx0⟩ : ∃ x, line[hd] = x := ⟨_, rfl⟩
          have hxr : m.sy ≤ x ∧ x ≤ 2 * m.sy - 1 := by
            have h1 := HME.out _ (List.getElem_mem hdl)
            rw [hx0] at hmk h1
            exact ⟨of_decide_eq_true hmk, h1.2⟩
          have hxg : line.getD hd 0 = x := by rw [List.getD_eq_getElem?_getD, List.getElem?_eq_getElem hdl, ← hx0]; rfl
          have HXG : Hid (line[hd]? = some x) := Lib.hid (by rw [List.getElem?_eq_getElem hdl, hx0])
          have hw1 : IntKind.i64.wrap ((hd : Int) + 1) = (hd : Int) + 1 := IntWalk.i64_in _ (by omega)
          have hw2 : IntKind.i64.wrap (x - m.sy) = x - m.sy := IntWalk.i64_in _ (by omega)
          have hn1 : ¬ (hd : Int) < 0 := by omega
          have hn2 : ((hd : Int) + 1).toNat = hd + 1 := by omega
          have hn3 : (0 : Int) ≤ (hd : Int) + 1 := by omega
          have hn4 : (hd : Int) + 1 ≤ (line.length : Int) := by omega
          have hn5 : hd + 1 ≤ line.length := by omega
          have hn6 : (hd : Int) < (line.length : Int) := by omega
          have hn7 : ¬ cu = hd := by omega
          have HTW := Lib.hid (tapeDec_two hfi)
          have HON := Lib.hid (tapeDec_one hfi)
          have HOU := Lib.hid ou
          have HLE := Lib.hid hlen
          have HX1 := Lib.hid hx1
          obtain ⟨n, hn⟩ : ∃ n, line.length = n := ⟨_, rfl⟩
          have HN := Lib.hid hn
          rw [hn] at IX hcu1 hn4 hn5 hn6 hZ2 hdl
          rw [hn]
          obtain ⟨an, han⟩ : ∃ an, (line.drop (hd + 1)).any (markB m.sy) = an := ⟨_, rfl⟩
          rw [han] at HS
          have HAN := Lib.hid han
          clear hfi hz hmk hx0 ou hlen hn han hx1 hZi
          -- FORMS
          -- FORMS
          -- FORMS
          -- FORMS
          -- FORMS
          -- FORMS
          -- FORMS
          -- FORMS
          -- FORMS
          by_cases hcc : cu = hd + 1
          · have hZ := hZ1 hcc
            subst hZ
            clear hZ1 hZ2
            subst hcc
            go_wp2_with fail
            refine IX.mono ?_
            rintro e w' ⟨rfl, rfl⟩
            clear IX
            go_wp2_with fail
            refine HS.mono ?_
            rintro e w' ⟨rfl, rfl⟩
            clear HS
            cases an with
            | true =>
              have HE : Hid (R = (⟨0, []⟩, 9)) := Lib.hid (HFA.out (HTW.out HAN.out))
              have ob := bO1.cell
              have of_ := bO1.frozen
              go_wp2_with fail
              rw [HE.out]
              exact bodyPost_ret (v := .tuple #[.agg #[.int .i64 0, .slice none 0 0], .int .i64 9]) (by simp [results, Tryz.results25, go_sem, ob]) rfl (DecRes.fail hb3 hXw1 _ _)
            | false =>
              have ht := HON.out HAN.out
              rw [hxg] at ht
              have HG := Lib.hid (HGO.out _ ht)
              have o1 := HOU.out
              rw [HN.out] at o1
              have hlN := HN.out
              go_upto_region 13 with fail
              have zD := Ext.drew w1
              have oD := OwnInts.ext o1 zD
              have oE : w1.drew.ownsRow wr.heap.size 2 1 (.slice (some ⟨gu, 0, none⟩) line.length (hd + 1)) line.length (ivs line) := OwnInts.ext HOU.out zD
              have s1 := zD.cell hb1
              have k0 : w1.drew.cell? ⟨gu, hd, none⟩ = some (.int .i64 x) := by
                rw [World.ownsRow.cellAt oE hd (by omega)]
                simp only [ivs, List.getElem?_map]
                rw [HXG.out]
                rfl
              have kf := World.ownsRow.frozenAt oE hd
              refine wp_region_ordT 8 (readsT [0, 1, 2, 3, 4, 5, 6, 7] .done) (by kernel_rfl) (by kernel_rfl) (fun _ _ _ _ _ h => h) ?_
              simp only [readsT]
              iterate 8 (refine wpOrdT_read (v := ?_) (by rfl) (Or.inl ⟨by rfl, fun x hx => ?_⟩) ?_; rotate_left; (· have u0 := hx.cell k0; have u1 := hx.cell s1; go_simp; try with_reducible rfl); try simp only [Act.put, List.setIfInBounds_toArray, List.set_cons_zero, List.set_cons_succ])
              refine wpOrdT_done ?_
              try simp only [List.drop_succ_cons, List.drop_zero]
              change wpList _ _ _ _ _ w1.drew
              have hXY := hX1.trans zD
              have hlow : wr.heap.size ≤ w1.drew.heap.size := HX1.out.size
              have hXr := HX1.out.trans zD
              clear hb1 s1 oE
              generalize w1.drew = Y at *
              obtain ⟨S, hS⟩ : ∃ S, S = Y.setCell ⟨gu, hd, none⟩ (.int .i64 (x - m.sy)) := ⟨_, rfl⟩
              have oS := own_put oD HN.out.symm (k := hd) (by omega) (x - m.sy)
              rw [← hS] at oS
              have hXS : Ext wr S := by rw [hS]; exact hXr.setCell (p := ⟨gu, hd, none⟩) hgu1 _
              go_upto_region 14 with fail
              try rw [← hS]
              clear hS k0 kf oD
              have HSL : (line.set hd (x - m.sy)).length = n := by rw [List.length_set]; exact hlN
              have i0' := oS.ints
              rw [← HSL] at i0'
              have i1' := i0'.take hd (by omega)
              rw [set_take] at i1'
              have i2' := ints_dropA oS.ints HSL.symm hd (by omega)
              rw [set_drop line hd _ (by omega), Nat.zero_add] at i2'
              try simp only [Nat.add_sub_cancel_left] at i2'
              have hlt1 : (line.take hd).reverse.length ≤ 1048576 := by rw [List.length_reverse, List.length_take]; have := HLE.out; omega
              have hlt0 : (line.take hd).length ≤ 1048576 := by rw [List.length_take]; have := HLE.out; omega
              have hlt2 : ((x - m.sy) :: line.drop (hd + 1)).length ≤ 1048576 := by rw [List.length_cons, List.length_drop]; have := HLE.out; omega
              have hS0 : wr.heap.size ≤ S.heap.size := hXS.size
              have zE := Ext.drew S
              have hVwr : V.heap.size ≤ wr.heap.size := hx.size
              have bT1 := bT.ext (hXS.trans zE)
              have t1 := bT1.cell 1
              simp only [List.getElem?_toArray, List.getElem?_cons_zero, List.getElem?_cons_succ] at t1
              have RV := reversed_c (.slice (some ⟨gu, 0, none⟩) hd (hd + 1)) (line.take hd) S.drew (i1'.ext zE) (.inr ⟨_, _, _, _, rfl⟩) hlt0
              generalize hl1 : (line.take hd).reverse = L1 at *
              generalize hl2 : (x - m.sy) :: line.drop (hd + 1) = L2 at *
              have hcap : hd ≤ (hd + 1) := by omega
              have hcapi : (hd : Int) ≤ (hd : Int) + 1 := by omega
              have hcn : hd ≤ n := by omega
              clear oS HSL i0' hl1 hl2
              refine wp_region_ordT 14 (readsT [0, 1, 2, 3, 4, 7, 8, 9] (.stir 5 (.stir 6 (.stir 10 (.stir 11 (readsT [12] (.stir 13 .done))))))) (by kernel_rfl) (by kernel_rfl) (fun _ _ _ _ _ h => h) ?_
              simp only [readsT]
              iterate 8 (refine wpOrdT_read (v := ?_) (by rfl) (Or.inl ⟨by rfl, fun x hx => ?_⟩) ?_; rotate_left; (· have u0 := hx.cell t1; go_simp; try with_reducible rfl); try simp only [Act.put, List.setIfInBounds_toArray, List.set_cons_zero, List.set_cons_succ])
              refine wpOrdT_stir (by rfl) (fun K hK => ?_)
              go_simp
              go_at_call 43
              refine RV.mono ?_
              rintro e w5 ⟨u5, rfl, ho5, hx5⟩
              refine hK _ _ hx5 ?_
              clear hK K RV
              try simp only [Act.put, List.setIfInBounds_toArray, List.set_cons_zero, List.set_cons_succ]
              have hf5 := ho5.flat
              obtain ⟨A5', c5', rfl, _, _⟩ := ho5.ints.form
              have TR := trimmed_c _ L1 w5 ho5.ints hlt1
              have own5 := own_trim ho5
              refine wpOrdT_stir (by rfl) (fun K hK => ?_)
              go_simp
              go_at_call 35
              refine TR.mono ?_
              rintro e w6 ⟨⟨A5, c5, hu5, rfl⟩, rfl⟩
              injection hu5 with h1 h2 h3
              subst h1 h3
              refine hK _ _ (Ext.refl _) ?_
              clear hK K TR hf5 ho5
              try simp only [Act.put, List.setIfInBounds_toArray, List.set_cons_zero, List.set_cons_succ]
              obtain ⟨n5, hn5⟩ : ∃ n5, trimN L1 L1.length = n5 := ⟨_, rfl⟩
              rw [hn5] at own5
              try rw [hn5]
              clear hn5
              have CL := CloneF_c (.slice (some ⟨gu, hd, none⟩) (n - hd) 1) L2 w5 (i2'.ext (zE.trans hx5)) (.inr ⟨_, _, _, _, rfl⟩) hlt2
              refine wpOrdT_stir (by rfl) (fun K hK => ?_)
              go_simp
              go_at_call 36
              refine CL.mono ?_
              rintro e w7 ⟨u7, rfl, ho7, _, hx7⟩
              refine hK _ _ hx7 ?_
              clear hK K CL
              try simp only [Act.put, List.setIfInBounds_toArray, List.set_cons_zero, List.set_cons_succ]
              obtain ⟨A7', c7', rfl, _, _⟩ := ho7.ints.form
              have TR := trimmed_c _ L2 w7 ho7.ints hlt2
              have own7 := own_trim ho7
              refine wpOrdT_stir (by rfl) (fun K hK => ?_)
              go_simp
              go_at_call 35
              refine TR.mono ?_
              rintro e w8 ⟨⟨A7, c7, hu7, rfl⟩, rfl⟩
              injection hu7 with h1 h2 h3
              subst h1 h3
              refine hK _ _ (Ext.refl _) ?_
              clear hK K TR ho7
              try simp only [Act.put, List.setIfInBounds_toArray, List.set_cons_zero, List.set_cons_succ]
              obtain ⟨n7, hn7'⟩ : ∃ n7, trimN L2 L2.length = n7 := ⟨_, rfl⟩
              rw [hn7'] at own7
              try rw [hn7']
              clear hn7'
              iterate 1 (refine wpOrdT_read (v := ?_) (by rfl) (Or.inl ⟨by rfl, fun x hx => ?_⟩) ?_; rotate_left; (· go_simp; try with_reducible rfl); try simp only [Act.put, List.setIfInBounds_toArray, List.set_cons_zero, List.set_cons_succ])
              refine wpOrdT_stir (by rfl) (fun K hK => ?_)
              go_simp
              refine hK _ _ (Ext.alloc _ _) ?_
              clear hK K
              try simp only [Act.put, List.setIfInBounds_toArray, List.set_cons_zero, List.set_cons_succ]
              refine wpOrdT_done ?_
              try simp only [List.drop_succ_cons, List.drop_zero]
              have hts3 : ts.length ≤ 3 := by have := decTapes_len HD.out; omega
              have eA := Ext.alloc w7 (.cells #[.slice A5' n5 c5', .slice A7' n7 c7'] 91)
              have hXr7 : Ext wr w7 := hXS.trans (zE.trans (hx5.trans hx7))
              have st4 := (st.ext hXr7).ext eA
              have hVS : V.heap.size ≤ S.drew.heap.size := Nat.le_trans hVwr (hXS.trans zE).size
              have hs57 : S.drew.heap.size ≤ w5.heap.size := hx5.size
              have hs7 : w5.heap.size ≤ w7.heap.size := hx7.size
              have hsr7 : wr.heap.size ≤ S.drew.heap.size := (hXS.trans zE).size
              have p5 : OwnInts V.heap.size (w7.alloc (.cells #[.slice A5' n5 c5', .slice A7' n7 c7'] 91)) (.slice A5' n5 c5') (trim L1) := OwnInts.ext (OwnInts.ext (ownsRow_base own5 hVS) hx7) eA
              have p7 : OwnInts V.heap.size (w7.alloc (.cells #[.slice A5' n5 c5', .slice A7' n7 c7'] 91)) (.slice A7' n7 c7') (trim L2) := OwnInts.ext (ownsRow_base own7 (Nat.le_trans hVS hs57)) eA
              have bT4 := (bT.ext hXr7).ext eA
              have hx4 := (hx.trans hXr7).trans eA
              go_wp2_with (at_builtin; refine wpList_append_own_at _ rfl _ _ 46 rfl V.heap.size 91 i0 (.agg #[.slice none 0 0, .slice none 0 0]) 2 48 Tryz.underlying46 hi0 hz0 hz1 hz2 rfl (by decide) _ _ cl rfl st4.own ⟨w7.heap.size, 0, none⟩ 1 1 [.slice A5' n5 c5', .slice A7' n7 c7'] rfl rfl (World.news_of_block (heap_alloc_new w7 _)) ?c2 ?c3 ?c4 ?c5 ?_)
              case c2 => first | exact ⟨rfl, rfl⟩ | (intro u hu; simp at hu; rcases hu with rfl | rfl <;> rfl)
              case c3 => unfold maxLen; omega
              case c4 => omega
              case c5 => have := (hx.trans hXr7).size; first | omega | (simp; omega)
              intro v' w9 hown9 hg9 _ _
              obtain ⟨A9, c9, rfl, _, _, _⟩ := (ownsRow_row hown9).form
              have st5 := (st4.widen ⟨trim L1, trim L2⟩).push (lv := .slice A5' n5 c5') (rv := .slice A7' n7 c7') (by simp) hg9 hown9 (by simpa using p5) (by simpa using p7) (fun q h1 h2 => by
                have a := (own5.lt q h1).2
                have b := (own7.lt q h2).1
                omega) (fun j u q hj hq => by
                have := st.lt (Nat.le_refl _) hj hq
                exact ⟨fun e => by have := (own5.lt q e).1; omega, fun e => by have := (own7.lt q e).1; omega⟩)
              have bT9 := Blk.apart bT4 st4.own (by decide) hg9
              have hx9 : Ext V w9 := hx4.grown hg9 (fun q hq => (st4.own.lt q hq).1)
              have q9 := bT9.cell 1
              have qf := bT9.frozen 1
              simp only [List.getElem?_toArray, List.getElem?_cons_zero, List.getElem?_cons_succ] at q9
              have HS9 : Hid (CpM V (ts ++ [⟨trim L1, trim L2⟩]) (ts ++ [(⟨trim L1, trim L2⟩ : TapeD)]).length (.slice A9 (ts.length + 1) c9) (cl ++ [.slice A5' n5 c5', .slice A7' n7 c7']) (w9.setCell ⟨g + 1 + 1 + 1 + 1, 1, none⟩ (.slice A9 (ts.length + 1) c9))) := Lib.hid (by
                rw [List.length_append, List.length_singleton]
                exact st5.set bT9 1 _)
              have HX9 := Lib.hid (hx9.setCell (p := ⟨g + 1 + 1 + 1 + 1, 1, none⟩) (by show V.heap.size ≤ g + 1 + 1 + 1 + 1; rw [HVS.out]; exact Nat.le_refl _) (.slice A9 (ts.length + 1) c9))
              have HC9 := Lib.hid (bT9.set_ 1 (.slice A9 (ts.length + 1) c9))
              have hmk : m.tp.toNat - (k + 1) < m.tp.toNat - k := by omega
              clear st4 st5 hown9 hg9 bT4 bT9 hx9 p5 p7 own5 own7 eA hXr7 st
              go_wp2_with fail
              go_roundw
              case rel => exact ⟨k + 1, _, _, _, by omega, by go_num, HG.out, HS9.out, HX9.out, HC9.out⟩
              case measure => simp [intOf]; omega
          · have hZ := hZ2 hcc
            subst hZ
            clear hZ1 hZ2
            go_wp2_with fail
            refine IX.mono ?_
            rintro e w' ⟨rfl, rfl⟩
            clear IX
            go_wp2_with fail
            refine HS.mono ?_
            rintro e w' ⟨rfl, rfl⟩
            clear HS
            cases an with
            | true =>
              have HE : Hid (R = (⟨0, []⟩, 9)) := Lib.hid (HFA.out (HTW.out HAN.out))
              have ob := bO1.cell
              have of_ := bO1.frozen
              go_wp2_with fail
              rw [HE.out]
              exact bodyPost_ret (v := .tuple #[.agg #[.int .i64 0, .slice none 0 0], .int .i64 9]) (by simp [results, Tryz.results25, go_sem, ob]) rfl (DecRes.fail hb3 hXw1 _ _)
            | false =>
              have ht := HON.out HAN.out
              rw [hxg] at ht
              have HG := Lib.hid (HGO.out _ ht)
              have o1 := HOU.out
              rw [HN.out] at o1
              have hlN := HN.out
              go_upto_region 13 with fail
              have zD := Ext.drew w1
              have oD := OwnInts.ext o1 zD
              have oE : w1.drew.ownsRow wr.heap.size 2 1 (.slice (some ⟨gu, 0, none⟩) line.length cu) line.length (ivs line) := OwnInts.ext HOU.out zD
              have s1 := zD.cell hb1
              have k0 : w1.drew.cell? ⟨gu, hd, none⟩ = some (.int .i64 x) := by
                rw [World.ownsRow.cellAt oE hd (by omega)]
                simp only [ivs, List.getElem?_map]
                rw [HXG.out]
                rfl
              have kf := World.ownsRow.frozenAt oE hd
              refine wp_region_ordT 8 (readsT [0, 1, 2, 3, 4, 5, 6, 7] .done) (by kernel_rfl) (by kernel_rfl) (fun _ _ _ _ _ h => h) ?_
              simp only [readsT]
              iterate 8 (refine wpOrdT_read (v := ?_) (by rfl) (Or.inl ⟨by rfl, fun x hx => ?_⟩) ?_; rotate_left; (· have u0 := hx.cell k0; have u1 := hx.cell s1; go_simp; try with_reducible rfl); try simp only [Act.put, List.setIfInBounds_toArray, List.set_cons_zero, List.set_cons_succ])
              refine wpOrdT_done ?_
              try simp only [List.drop_succ_cons, List.drop_zero]
              change wpList _ _ _ _ _ w1.drew
              have hXY := hX1.trans zD
              have hlow : wr.heap.size ≤ w1.drew.heap.size := HX1.out.size
              have hXr := HX1.out.trans zD
              clear hb1 s1 oE
              generalize w1.drew = Y at *
              obtain ⟨S, hS⟩ : ∃ S, S = Y.setCell ⟨gu, hd, none⟩ (.int .i64 (x - m.sy)) := ⟨_, rfl⟩
              have oS := own_put oD HN.out.symm (k := hd) (by omega) (x - m.sy)
              rw [← hS] at oS
              have hXS : Ext wr S := by rw [hS]; exact hXr.setCell (p := ⟨gu, hd, none⟩) hgu1 _
              go_upto_region 14 with fail
              try rw [← hS]
              clear hS k0 kf oD
              have HSL : (line.set hd (x - m.sy)).length = n := by rw [List.length_set]; exact hlN
              have i0' := oS.ints
              rw [← HSL] at i0'
              have i1' := i0'.take hd (by omega)
              rw [set_take] at i1'
              have i2' := ints_dropA oS.ints HSL.symm hd (by omega)
              rw [set_drop line hd _ (by omega), Nat.zero_add] at i2'
              try simp only [Nat.add_sub_cancel_left] at i2'
              have hlt1 : (line.take hd).reverse.length ≤ 1048576 := by rw [List.length_reverse, List.length_take]; have := HLE.out; omega
              have hlt0 : (line.take hd).length ≤ 1048576 := by rw [List.length_take]; have := HLE.out; omega
              have hlt2 : ((x - m.sy) :: line.drop (hd + 1)).length ≤ 1048576 := by rw [List.length_cons, List.length_drop]; have := HLE.out; omega
              have hS0 : wr.heap.size ≤ S.heap.size := hXS.size
              have zE := Ext.drew S
              have hVwr : V.heap.size ≤ wr.heap.size := hx.size
              have bT1 := bT.ext (hXS.trans zE)
              have t1 := bT1.cell 1
              simp only [List.getElem?_toArray, List.getElem?_cons_zero, List.getElem?_cons_succ] at t1
              have RV := reversed_c (.slice (some ⟨gu, 0, none⟩) hd cu) (line.take hd) S.drew (i1'.ext zE) (.inr ⟨_, _, _, _, rfl⟩) hlt0
              generalize hl1 : (line.take hd).reverse = L1 at *
              generalize hl2 : (x - m.sy) :: line.drop (hd + 1) = L2 at *
              have hcap : hd ≤ cu := by omega
              have hcapi : (hd : Int) ≤ (cu : Int) := by omega
              have hcn : hd ≤ n := by omega
              clear oS HSL i0' hl1 hl2
              refine wp_region_ordT 14 (readsT [0, 1, 2, 3, 4, 7, 8, 9] (.stir 5 (.stir 6 (.stir 10 (.stir 11 (readsT [12] (.stir 13 .done))))))) (by kernel_rfl) (by kernel_rfl) (fun _ _ _ _ _ h => h) ?_
              simp only [readsT]
              iterate 8 (refine wpOrdT_read (v := ?_) (by rfl) (Or.inl ⟨by rfl, fun x hx => ?_⟩) ?_; rotate_left; (· have u0 := hx.cell t1; go_simp; try with_reducible rfl); try simp only [Act.put, List.setIfInBounds_toArray, List.set_cons_zero, List.set_cons_succ])
              refine wpOrdT_stir (by rfl) (fun K hK => ?_)
              go_simp
              go_at_call 43
              refine RV.mono ?_
              rintro e w5 ⟨u5, rfl, ho5, hx5⟩
              refine hK _ _ hx5 ?_
              clear hK K RV
              try simp only [Act.put, List.setIfInBounds_toArray, List.set_cons_zero, List.set_cons_succ]
              have hf5 := ho5.flat
              obtain ⟨A5', c5', rfl, _, _⟩ := ho5.ints.form
              have TR := trimmed_c _ L1 w5 ho5.ints hlt1
              have own5 := own_trim ho5
              refine wpOrdT_stir (by rfl) (fun K hK => ?_)
              go_simp
              go_at_call 35
              refine TR.mono ?_
              rintro e w6 ⟨⟨A5, c5, hu5, rfl⟩, rfl⟩
              injection hu5 with h1 h2 h3
              subst h1 h3
              refine hK _ _ (Ext.refl _) ?_
              clear hK K TR hf5 ho5
              try simp only [Act.put, List.setIfInBounds_toArray, List.set_cons_zero, List.set_cons_succ]
              obtain ⟨n5, hn5⟩ : ∃ n5, trimN L1 L1.length = n5 := ⟨_, rfl⟩
              rw [hn5] at own5
              try rw [hn5]
              clear hn5
              have CL := CloneF_c (.slice (some ⟨gu, hd, none⟩) (n - hd) (cu - hd)) L2 w5 (i2'.ext (zE.trans hx5)) (.inr ⟨_, _, _, _, rfl⟩) hlt2
              refine wpOrdT_stir (by rfl) (fun K hK => ?_)
              go_simp
              go_at_call 36
              refine CL.mono ?_
              rintro e w7 ⟨u7, rfl, ho7, _, hx7⟩
              refine hK _ _ hx7 ?_
              clear hK K CL
              try simp only [Act.put, List.setIfInBounds_toArray, List.set_cons_zero, List.set_cons_succ]
              obtain ⟨A7', c7', rfl, _, _⟩ := ho7.ints.form
              have TR := trimmed_c _ L2 w7 ho7.ints hlt2
              have own7 := own_trim ho7
              refine wpOrdT_stir (by rfl) (fun K hK => ?_)
              go_simp
              go_at_call 35
              refine TR.mono ?_
              rintro e w8 ⟨⟨A7, c7, hu7, rfl⟩, rfl⟩
              injection hu7 with h1 h2 h3
              subst h1 h3
              refine hK _ _ (Ext.refl _) ?_
              clear hK K TR ho7
              try simp only [Act.put, List.setIfInBounds_toArray, List.set_cons_zero, List.set_cons_succ]
              obtain ⟨n7, hn7'⟩ : ∃ n7, trimN L2 L2.length = n7 := ⟨_, rfl⟩
              rw [hn7'] at own7
              try rw [hn7']
              clear hn7'
              iterate 1 (refine wpOrdT_read (v := ?_) (by rfl) (Or.inl ⟨by rfl, fun x hx => ?_⟩) ?_; rotate_left; (· go_simp; try with_reducible rfl); try simp only [Act.put, List.setIfInBounds_toArray, List.set_cons_zero, List.set_cons_succ])
              refine wpOrdT_stir (by rfl) (fun K hK => ?_)
              go_simp
              refine hK _ _ (Ext.alloc _ _) ?_
              clear hK K
              try simp only [Act.put, List.setIfInBounds_toArray, List.set_cons_zero, List.set_cons_succ]
              refine wpOrdT_done ?_
              try simp only [List.drop_succ_cons, List.drop_zero]
              have hts3 : ts.length ≤ 3 := by have := decTapes_len HD.out; omega
              have eA := Ext.alloc w7 (.cells #[.slice A5' n5 c5', .slice A7' n7 c7'] 91)
              have hXr7 : Ext wr w7 := hXS.trans (zE.trans (hx5.trans hx7))
              have st4 := (st.ext hXr7).ext eA
              have hVS : V.heap.size ≤ S.drew.heap.size := Nat.le_trans hVwr (hXS.trans zE).size
              have hs57 : S.drew.heap.size ≤ w5.heap.size := hx5.size
              have hs7 : w5.heap.size ≤ w7.heap.size := hx7.size
              have hsr7 : wr.heap.size ≤ S.drew.heap.size := (hXS.trans zE).size
              have p5 : OwnInts V.heap.size (w7.alloc (.cells #[.slice A5' n5 c5', .slice A7' n7 c7'] 91)) (.slice A5' n5 c5') (trim L1) := OwnInts.ext (OwnInts.ext (ownsRow_base own5 hVS) hx7) eA
              have p7 : OwnInts V.heap.size (w7.alloc (.cells #[.slice A5' n5 c5', .slice A7' n7 c7'] 91)) (.slice A7' n7 c7') (trim L2) := OwnInts.ext (ownsRow_base own7 (Nat.le_trans hVS hs57)) eA
              have bT4 := (bT.ext hXr7).ext eA
              have hx4 := (hx.trans hXr7).trans eA
              go_wp2_with (at_builtin; refine wpList_append_own_at _ rfl _ _ 46 rfl V.heap.size 91 i0 (.agg #[.slice none 0 0, .slice none 0 0]) 2 48 Tryz.underlying46 hi0 hz0 hz1 hz2 rfl (by decide) _ _ cl rfl st4.own ⟨w7.heap.size, 0, none⟩ 1 1 [.slice A5' n5 c5', .slice A7' n7 c7'] rfl rfl (World.news_of_block (heap_alloc_new w7 _)) ?c2 ?c3 ?c4 ?c5 ?_)
              case c2 => first | exact ⟨rfl, rfl⟩ | (intro u hu; simp at hu; rcases hu with rfl | rfl <;> rfl)
              case c3 => unfold maxLen; omega
              case c4 => omega
              case c5 => have := (hx.trans hXr7).size; first | omega | (simp; omega)
              intro v' w9 hown9 hg9 _ _
              obtain ⟨A9, c9, rfl, _, _, _⟩ := (ownsRow_row hown9).form
              have st5 := (st4.widen ⟨trim L1, trim L2⟩).push (lv := .slice A5' n5 c5') (rv := .slice A7' n7 c7') (by simp) hg9 hown9 (by simpa using p5) (by simpa using p7) (fun q h1 h2 => by
                have a := (own5.lt q h1).2
                have b := (own7.lt q h2).1
                omega) (fun j u q hj hq => by
                have := st.lt (Nat.le_refl _) hj hq
                exact ⟨fun e => by have := (own5.lt q e).1; omega, fun e => by have := (own7.lt q e).1; omega⟩)
              have bT9 := Blk.apart bT4 st4.own (by decide) hg9
              have hx9 : Ext V w9 := hx4.grown hg9 (fun q hq => (st4.own.lt q hq).1)
              have q9 := bT9.cell 1
              have qf := bT9.frozen 1
              simp only [List.getElem?_toArray, List.getElem?_cons_zero, List.getElem?_cons_succ] at q9
              have HS9 : Hid (CpM V (ts ++ [⟨trim L1, trim L2⟩]) (ts ++ [(⟨trim L1, trim L2⟩ : TapeD)]).length (.slice A9 (ts.length + 1) c9) (cl ++ [.slice A5' n5 c5', .slice A7' n7 c7']) (w9.setCell ⟨g + 1 + 1 + 1 + 1, 1, none⟩ (.slice A9 (ts.length + 1) c9))) := Lib.hid (by
                rw [List.length_append, List.length_singleton]
                exact st5.set bT9 1 _)
              have HX9 := Lib.hid (hx9.setCell (p := ⟨g + 1 + 1 + 1 + 1, 1, none⟩) (by show V.heap.size ≤ g + 1 + 1 + 1 + 1; rw [HVS.out]; exact Nat.le_refl _) (.slice A9 (ts.length + 1) c9))
              have HC9 := Lib.hid (bT9.set_ 1 (.slice A9 (ts.length + 1) c9))
              have hmk : m.tp.toNat - (k + 1) < m.tp.toNat - k := by omega
              clear st4 st5 hown9 hg9 bT4 bT9 hx9 p5 p7 own5 own7 eA hXr7 st
              go_wp2_with fail
              go_roundw
              case rel => exact ⟨k + 1, _, _, _, by omega, by go_num, HG.out, HS9.out, HX9.out, HC9.out⟩
              case measure => simp [intOf]; omega
      · have hkt : (k : Int) = m.tp := by omega
        have hkn : m.tp.toNat = k := by omega
        have HE : Hid (R = (⟨pa, ts⟩, 0)) := Lib.hid (by rw [HK.out, hkn, hdt])
        have bO1 := HBO.out.ext hx
        have ob := bO1.cell
        have of_ := bO1.frozen
        have t0 := bT.cell 0
        have t1 := bT.cell 1
        simp only [List.getElem?_toArray, List.getElem?_cons_zero, List.getElem?_cons_succ] at t0 t1
        have hge : ¬ (k : Int) < m.tp := by omega
        have ST := Lib.hid st
        clear hkt hkn hdt st bT hlt
        go_wp2
        rw [HE.out]
        exact bodyPost_ret (v := .tuple #[.agg #[.int .i64 pa, .slice Av ts.length cv], .int .i64 0]) (by simp [results, Tryz.results25, go_sem, ob]) rfl (DecRes.done hb3 hXwr (ST.out.base HXV.out.size) bO1 _ _)
  · have HE : Hid (R = (⟨0, []⟩, 6)) := Lib.hid (by rw [HR.out]; unfold decOne; simp only; rw [if_neg hk])
    have ob := bOV.cell
    have of_ := bOV.frozen
    go_wp2
    rw [HE.out]
    exact bodyPost_ret (v := .tuple #[.agg #[.int .i64 0, .slice none 0 0], .int .i64 6]) (by simp [results, Tryz.results25, go_sem, ob]) rfl (DecRes.fail hb3 hXVw _ _)
end Go.Proofs.YtgeckhjkahnonaaGreatDoor
end
