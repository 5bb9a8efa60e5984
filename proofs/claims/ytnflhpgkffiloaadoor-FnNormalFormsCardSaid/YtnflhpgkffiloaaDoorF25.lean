/- Contract: a formula tape for a machine with counts.
Contract of the library's maker of strings in a block of the call's own: a string is laid behind what it holds.
Contract of the program's text of a configuration with several tapes. The listed tables of the library hold what they should. -/
import Derived.Test.YtnflhpgkffiloaaDoorF24
import Derived.Test.YtnflhpgkffiloaaDoorF05
import Derived.Lib.AppendStr
import Derived.Test.YtnflhpgkffiloaaDoorF02
import Derived.Lib.ItoaNum
import Derived.Lib.ItoaMem
import Derived.Lib.ItoaLen
import Derived.Lib.Join
import Derived.Test.YtnflhpgkffiloaaDoorF03
import Derived.Lib.Split
import Derived.Lib.SplitLaws
import Derived.Lib.CountLaws
import Derived.Lib.CutLaws
import Derived.Lib.IndexAny
import Derived.Lib.ParseIntBTie
import Derived.Lib.AtoiTie
import Derived.Lib.AtoiAllCases
import Derived.Test.YtnflhpgkffiloaaDoorF04
import Derived.Test.YtnflhpgkffiloaaDoorF06
import Derived.Lib.IndexMore
import Derived.Test.YtnflhpgkffiloaaDoorF13
import Derived.Test.YtnflhpgkffiloaaDoorF14
section
set_option linter.unusedSimpArgs false
set_option linter.unusedVariables false
namespace Go.Proofs.YtnflhpgkffiloaaDoor
open Go Go.RowKit Go.Proofs
set_option maxHeartbeats 400000
theorem OwnLists.src {B : Nat} {w w' : World} {b n : Nat} (h : Src B w b n) (hg : w.grownBy w' (some b)) {base : Nat} {v : Value} {xss : List (List Int)} (ho : OwnLists base w v xss) : OwnLists base w' v xss := by
  obtain ⟨vs, a, c⟩ := ho
  exact ⟨vs, own_src h hg a (by decide), fun i hi => by obtain ⟨u, x, y⟩ := c i hi; exact ⟨u, x, own_src h hg y (by decide)⟩⟩
/-- Six cells of another block are written. -/
theorem far_blk6 {w : World} {base : Nat} {e : TypeId} {size n : Nat} {v : Value} {xs : List Value} {g : Nat} {t : TypeId} {cs : Array Value} (h : w.ownsRow base e size v n xs) (hb : Blk w g t cs) (hne : t ≠ e) (x0 x1 x2 x3 x4 x5 : Value) :
    ((((((w.setCell ⟨g, 0, none⟩ x0).setCell ⟨g, 1, none⟩ x1).setCell ⟨g, 2, none⟩ x2).setCell ⟨g, 3, none⟩ x3).setCell ⟨g, 4, none⟩ x4).setCell ⟨g, 5, none⟩ x5).ownsRow base e size v n xs :=
  far_blkF (far_blkF (far_blkF (far_blkF (far_blkF (far_blkF h hb hne 0 x0) (hb.set_ 0 x0) hne 1 x1) ((hb.set_ 0 x0).set_ 1 x1) hne 2 x2) (((hb.set_ 0 x0).set_ 1 x1).set_ 2 x2) hne 3 x3) ((((hb.set_ 0 x0).set_ 1 x1).set_ 2 x2).set_ 3 x3) hne 4 x4) (((((hb.set_ 0 x0).set_ 1 x1).set_ 2 x2).set_ 3 x3).set_ 4 x4) hne 5 x5
theorem OwnLists.far6 {w : World} {base : Nat} {v : Value} {xss : List (List Int)} {g : Nat} {t : TypeId} {cs : Array Value} (h : OwnLists base w v xss) (hb : Blk w g t cs) (h1 : t ≠ 29) (h2 : t ≠ 2) (x0 x1 x2 x3 x4 x5 : Value) :
    OwnLists base ((((((w.setCell ⟨g, 0, none⟩ x0).setCell ⟨g, 1, none⟩ x1).setCell ⟨g, 2, none⟩ x2).setCell ⟨g, 3, none⟩ x3).setCell ⟨g, 4, none⟩ x4).setCell ⟨g, 5, none⟩ x5) v xss := by
  obtain ⟨vs, a, c⟩ := h
  exact ⟨vs, far_blk6 a hb h1 _ _ _ _ _ _, fun i hi => by obtain ⟨u, x, y⟩ := c i hi; exact ⟨u, x, far_blk6 y hb h2 _ _ _ _ _ _⟩⟩
theorem ext_set6 {w w' : World} (h : Ext w w') {g : Nat} (hg : w.heap.size ≤ g) (x0 x1 x2 x3 x4 x5 : Value) :
    Ext w ((((((w'.setCell ⟨g, 0, none⟩ x0).setCell ⟨g, 1, none⟩ x1).setCell ⟨g, 2, none⟩ x2).setCell ⟨g, 3, none⟩ x3).setCell ⟨g, 4, none⟩ x4).setCell ⟨g, 5, none⟩ x5) := by
  have s : ∀ {W : World} (i : Nat) (x : Value), Ext w W → Ext w (W.setCell ⟨g, i, none⟩ x) := fun {W} i x hW => hW.grown (grownBy_setCell W ⟨g, i, none⟩ x) (fun q hq => by injection hq with hq; subst hq; exact hg)
  exact s 5 x5 (s 4 x4 (s 3 x3 (s 2 x2 (s 1 x1 (s 0 x0 h)))))
/-- What is drawn: a formula tape and its counts. -/
def DrawnFC (m : MachD) (e : Ending) (w' : World) : Prop := ∃ f wv rv ov cv cs, e = .returned (.tuple #[.agg #[.int .i64 f.q, .int .i64 f.hd, .int .i64 f.at_, wv, rv, ov], cv]) ∧ FoV w' (.agg #[.int .i64 f.q, .int .i64 f.hd, .int .i64 f.at_, wv, rv, ov]) f wv rv ov ∧ foOk m f = true ∧ (∀ x ∈ f.ws, x.length ≤ 4) ∧ (∀ x ∈ f.rs, x.length ≤ 3) ∧ (∀ o ∈ f.os, -2 ≤ o ∧ o ≤ 2) ∧
  Ints w' cv cs ∧ Flat cv ∧ cs.length = f.rs.length ∧ ∀ z ∈ cs, 4 ≤ z ∧ z < 8
set_option maxRecDepth 20000 in
set_option maxHeartbeats 8000000 in
theorem R8Formula_c (m : MachD) (mv v : Value) (bs : List Int) (w : World) (h : Bytes w v bs) (hmk : machOk m = true) :
    Calls Tryd.prog 6 #[v, .agg #[.int .i64 m.sy, .int .i64 m.st, mv]] w fun e w' => DrawnFC m e w' ∧ Ext w w' := by
  obtain ⟨i0, hi0, hz0, hz1, hz2⟩ := info_parts intInfo
  obtain ⟨A0, c0, rfl, _, _, _⟩ := h.1.form
  obtain ⟨V, hV⟩ : ∃ V, V = (w.alloc (.cells #[.int .i64 m.sy, .int .i64 m.st, mv] 26)).alloc (.cells #[.int .i64 0, .int .i64 0, .int .i64 0, .slice none 0 0, .slice none 0 0, .slice none 0 0] 31) := ⟨_, rfl⟩
  obtain ⟨g, hg⟩ : ∃ g, w.heap.size = g := ⟨_, rfl⟩
  have hX : Ext w V := by rw [hV]; exact (Ext.alloc _ _).trans (Ext.alloc _ _)
  have bm : Blk V g 26 #[.int .i64 m.sy, .int .i64 m.st, mv] := by rw [hV]; exact (Blk.new _ _ _ _ hg).alloc _
  have bO : Blk V (g + 1) 31 #[.int .i64 0, .int .i64 0, .int .i64 0, .slice none 0 0, .slice none 0 0, .slice none 0 0] := by rw [hV]; exact Blk.new _ _ _ _ (by simp [hg])
  have FR := from_c _ bs V (h.ext hX)
  have HX := Lib.hid hX
  have HG := Lib.hid hg
  have HMK := Lib.hid hmk
  clear h hmk hX
  go_enter Tryd.func6, Tryd.ntmps6
  go_wp2_with fail
  try rw [← hV]
  try rw [hg]
  clear hV hg
  refine FR.mono ?_
  rintro e wf ⟨⟨b, rfl, hb0, hs0⟩, hxf⟩
  have DR := l27DrawOk_c V.heap.size b g 0 m mv wf hs0 hxf.size (bm.ext hxf) HMK.out (by omega)
  have bO1 := bO.ext hxf
  have bm1 := bm.ext hxf
  have HXF := Lib.hid (HX.out.trans hxf)
  have HB0 := Lib.hid (And.intro hb0 (And.intro HX.out.size hxf))
  clear FR HX bO bm hxf hb0
  go_wp2_with fail
  refine DR.mono ?_
  rintro e w4 ⟨⟨f, wv, rv, ov, rfl, oW, oR, oO, hok, hwl, hrl, hol⟩, s4, g4⟩
  have bO4 := blk_src hs0 g4 bO1 (by decide)
  have bm4 := blk_src hs0 g4 bm1 (by decide)
  obtain ⟨A1, c1, rfl, _, _⟩ := oW.lists.form
  obtain ⟨A2, c2, rfl, _, _⟩ := oR.lists.form
  obtain ⟨A3, c3, rfl, _, _⟩ := oO.ints.form
  obtain ⟨gF, hgF⟩ : ∃ g, w4.heap.size = g := ⟨_, rfl⟩
  obtain ⟨w5, hw5⟩ : ∃ W, W = w4.alloc (.cells #[.int .i64 f.q, .int .i64 f.hd, .int .i64 f.at_, .slice A1 f.ws.length c1, .slice A2 f.rs.length c2, .slice A3 f.os.length c3] 31) := ⟨_, rfl⟩
  have e5 : Ext w4 w5 := by rw [hw5]; exact Ext.alloc _ _
  have bF : Blk w5 gF 31 #[.int .i64 f.q, .int .i64 f.hd, .int .i64 f.at_, .slice A1 f.ws.length c1, .slice A2 f.rs.length c2, .slice A3 f.os.length c3] := by rw [hw5]; exact Blk.new _ _ _ _ hgF
  have hgOF : g + 1 ≠ gF := by have := bO4.lt; omega
  have s5 := s4.ext e5
  have hbl := s5.lt
  have hr13 := (foOk_parts hok).1
  have hg6 : w5.heap.size = gF + 1 := by rw [hw5]; simp [hgF]
  have HD := Lib.hid (And.intro (oW.ext e5) (And.intro (oR.ext e5) (And.intro (ownsRow_ext oO e5) (And.intro hok (And.intro hwl (And.intro hrl hol))))))
  have HG5 := Lib.hid (grownBy_trans g4 (ext_grownBy e5 (some b)))
  have HFO := Lib.hid (And.intro (bO4.ext e5) bF)
  have HS5 := Lib.hid s5
  have HR3 := Lib.hid hr13
  obtain ⟨W6, hW6⟩ : ∃ W, W = w5.alloc (.cells #[] 2) := ⟨_, rfl⟩
  have e6 : Ext w5 W6 := by rw [hW6]; exact Ext.alloc _ _
  have st0 : CellSt V.heap.size b g 5000 (2 * 0) m.sy (.int .i64 m.st) mv w5 (.slice (some ⟨gF + 1, 0, none⟩) 0 0) [] W6 :=
    ⟨(bm4.ext e5).ext e6, ⟨by simp [ivs], .inr ⟨gF + 1, 0, #[], rfl, by rw [hg6]; exact Nat.le_refl _, by rw [hW6, ← hg6]; exact heap_alloc_new w5 _, by simp, by unfold maxLen; omega, rfl, by simp [ivs]⟩⟩, (s5.ext e6).mono (by omega), ext_grownBy e6 _⟩
  clear DR hs0 bO1 bm1 bO4 bm4 oW oR oO hok hwl hrl hol s4 g4 e5 e6 bF s5 hr13
  clear hbl
  go_wp2_with fail
  try rw [← hw5]
  try rw [hgF]
  try rw [← hW6]
  clear hW6 hw5 hgF hg6
  go_loopw [8, 9] (fun u i wr => ∃ (cs : List Int), cs.length ≤ f.rs.length ∧ i = .int .i64 (cs.length : Int) ∧ CellSt V.heap.size b g 5000 (2 * cs.length) m.sy (.int .i64 m.st) mv w5 u cs wr ∧ Hid (∀ z ∈ cs, 4 ≤ z ∧ z < 8)) (fun _ i _ => f.rs.length - (intOf i).toNat)
  case atStart => exact ⟨[], Nat.zero_le _, rfl, st0, Lib.hid (fun z hz => by simp at hz)⟩
  case round =>
    clear st0
    obtain ⟨xs, hk, rfl, stk, HA⟩ := hrel
    obtain ⟨Au, cu, rfl, _, _⟩ := stk.own.ints.form
    have bF := blk_src HS5.out stk.grown HFO.out.2 (by decide)
    have f4 : wr.cell? ⟨gF, 4, none⟩ = some (.slice A2 f.rs.length c2) := bF.cell 4
    by_cases hlt : xs.length < f.rs.length
    · have hd : decide ((xs.length : Int) < (f.rs.length : Int)) = true := decide_eq_true (by omega)
      have hd2 : decide (xs.length < f.rs.length) = true := decide_eq_true (by omega)
      clear bF
      go_wp2_with fail
      refine (pick_c _ b _ 4 _ stk.src (by have := HR3.out; omega)).mono ?_
      rintro e w2 ⟨⟨z, rfl, z0, _, z2⟩, hs2, hg2⟩
      have z3 := z2 (by omega)
      have hwz : IntKind.i64.wrap (4 + z) = 4 + z := IntWalk.i64_in _ (by omega)
      have st2 := stk.src' (d' := 2 * xs.length + 2) hs2 hg2
      clear stk hs2 hg2 z2 f4
      have ho1 : w2.ownsRow w5.heap.size 2 1 (.slice Au xs.length cu) xs.length (ivs xs) := st2.own
      have ho' := ho1.alloc (.cells #[.int .i64 (4 + z)] 2)
      have st3 := st2.ext (Ext.alloc w2 (.cells #[.int .i64 (4 + z)] 2))
      have hs := st2.grown.size
      have hr3 := HR3.out.2
      go_wp2_with (at_builtin; refine wpList_append_own_at _ rfl _ _ 29 rfl w5.heap.size 2 i0 (.int .i64 0) 1 8 Tryd.underlying29 hi0 hz0 hz1 hz2 rfl (by decide) _ _ _ rfl ho' ⟨w2.heap.size, 0, none⟩ 1 1 [.int .i64 (4 + z)] rfl rfl (cell_one_new _ _ _) ?c2 ?c3 ?c4 ?c5 ?_)
      case c2 => intro u hu; simp at hu; subst hu; rfl
      case c3 => unfold maxLen; omega
      case c4 => omega
      case c5 => simp; omega
      intro v' w4' hown4 hg4 _ hloc
      obtain ⟨A', c', rfl, _, _, _⟩ := (ownsRow_row hown4).form
      have st4 := st3.snoc (ys := xs ++ [4 + z]) (by have := HS5.out.lt; have := HB0.out.2.2.size; have := HG5.out.size; omega) HS5.out.lt (by simpa [OwnInts, ivs_append, ivs] using hown4) hg4
      have HS := Lib.hid st4
      have HZ := Lib.hid (And.intro z0 z3)
      clear st2 st3 st4 ho' ho1 hown4 hg4 hs hr3
      go_wp2
      go_roundw
      case rel => exact ⟨xs ++ [4 + z], by simp; omega, by first | (simp; done) | (simp; omega) | go_num, by simpa [Nat.mul_add, Nat.add_assoc] using HS.out, Lib.hid (fun y hy => by
        rcases List.mem_append.1 hy with hy | hy
        · exact HA.out y hy
        · rw [List.mem_singleton.1 hy]; have := HZ.out; omega)⟩
      case measure => simp [intOf]; omega
    · have hke : xs.length = f.rs.length := by omega
      have HKE := Lib.hid hke
      have hd : decide ((xs.length : Int) < (f.rs.length : Int)) = false := decide_eq_false (by omega)
      have hd2 : decide (xs.length < f.rs.length) = false := decide_eq_false (by omega)
      clear hke
      have bO := blk_src HS5.out stk.grown HFO.out.1 (by decide)
      have r0 := bF.cell 0
      have r1 := bF.cell 1
      have r2 := bF.cell 2
      have r3 := bF.cell 3
      have r5 := bF.cell 5
      have q0 := bO.cell 0
      have q1 := bO.cell 1
      have q2 := bO.cell 2
      have q3 := bO.cell 3
      have q4 := bO.cell 4
      have q5 := bO.cell 5
      simp only [List.getElem?_toArray, List.getElem?_cons_zero, List.getElem?_cons_succ] at r0 r1 r2 r3 r5 q0 q1 q2 q3 q4 q5
      have z0 := bO.frozen 0
      have z1 := bO.frozen 1
      have z2 := bO.frozen 2
      have z3 := bO.frozen 3
      have z4 := bO.frozen 4
      have z5 := bO.frozen 5
      have HE := Lib.hid (And.intro stk bO)
      clear stk bO bF
      go_wp2
      refine bodyPost_ret (v := .tuple #[.agg #[.int .i64 f.q, .int .i64 f.hd, .int .i64 f.at_, .slice A1 f.ws.length c1, .slice A2 f.rs.length c2, .slice A3 f.os.length c3], .slice Au xs.length cu]) (by simp [results, Tryd.results6, go_sem, q0, q1, q2, q3, q4, q5]) rfl ?_
      obtain ⟨stk, bO⟩ := HE.out
      obtain ⟨oW, oR, oO, hok, hwl, hrl, hol⟩ := HD.out
      have oW1 := (oW.src HS5.out stk.grown).far6 bO (by decide) (by decide) (.int .i64 f.q) (.int .i64 f.hd) (.int .i64 f.at_) (.slice A1 f.ws.length c1) (.slice A2 f.rs.length c2) (.slice A3 f.os.length c3)
      have oR1 := (oR.src HS5.out stk.grown).far6 bO (by decide) (by decide) (.int .i64 f.q) (.int .i64 f.hd) (.int .i64 f.at_) (.slice A1 f.ws.length c1) (.slice A2 f.rs.length c2) (.slice A3 f.os.length c3)
      have oO1 : OwnInts _ _ _ _ := far_blk6 (own_src HS5.out stk.grown oO (by decide)) bO (by decide) (.int .i64 f.q) (.int .i64 f.hd) (.int .i64 f.at_) (.slice A1 f.ws.length c1) (.slice A2 f.rs.length c2) (.slice A3 f.os.length c3)
      have oC1 : OwnInts _ _ _ _ := far_blk6 stk.own bO (by decide) (.int .i64 f.q) (.int .i64 f.hd) (.int .i64 f.at_) (.slice A1 f.ws.length c1) (.slice A2 f.rs.length c2) (.slice A3 f.os.length c3)
      have hE1 : Ext w wr := HXF.out.grown (grownBy_trans HG5.out stk.grown) (fun q hq => by injection hq with hq; subst hq; have := HB0.out; omega)
      exact ⟨⟨f, _, _, _, _, xs, rfl, ⟨rfl, oW1.lists, oR1.lists, oO1.ints, oO1.flat⟩, hok, hwl, hrl, hol, oC1.ints, oC1.flat, HKE.out, HA.out⟩, ext_set6 hE1 (by have := HG.out; omega) _ _ _ _ _ _⟩
end Go.Proofs.YtnflhpgkffiloaaDoor
end
section
set_option linter.unusedSimpArgs false
set_option linter.unusedVariables false
namespace Go.Proofs.YtnflhpgkffiloaaDoor
open Go Go.RowKit Go.Proofs
set_option maxHeartbeats 400000
set_option maxRecDepth 20000 in
set_option maxHeartbeats 4000000 in
theorem writeStringA_c (B b : Nat) (l : List UInt8) (s : ByteArray) (w : World) (h : Bldr B b l w) (hlen : l.length + s.size ≤ 140737488355328) (hBw : B ≤ w.heap.size) :
    Calls Tryd.prog 24 #[.pointer (some ⟨b, 0, none⟩), .string s] w fun e w' => e = .returned (.tuple #[.int .i64 s.size, .nilIface]) ∧ BdAt B b (.pointer (some ⟨b, 0, none⟩)) (l ++ s.data.toList) w' ∧ Below B w w' := by
  obtain ⟨i0, hi, hz0, hz1, hz2⟩ := info_parts byteInfo
  have hbl : (Lib.byteCells l).length = l.length := by simp [Lib.byteCells]
  go_enter Tryd.func24, Tryd.ntmps24
  go_wp2_with fail
  refine (copyCheck_c B b l w h).mono ?_
  rintro e w1 ⟨rfl, h1, hb1⟩
  obtain ⟨hB, v, hbk, hown, hne⟩ := h1
  rw [hbl] at hown
  obtain ⟨ao, cap, rfl⟩ : ∃ ao cap, v = .slice ao l.length cap := by
    rcases hown.2 with ⟨hv, h0⟩ | ⟨g, cap, cur, hv, _⟩
    · exact ⟨none, 0, by rw [hv, h0]⟩
    · exact ⟨_, _, hv⟩
  have c0 : w1.cell? ⟨b, 0, none⟩ = some (.pointer (some ⟨b, 0, none⟩)) := by rw [Lib.cell_of_heap hbk]; rfl
  have c1 : w1.cell? ⟨b, 1, none⟩ = some (.slice ao l.length cap) := by rw [Lib.cell_of_heap hbk]; rfl
  go_wp2_with (at_builtin; refine Lib.wpList_append_own_string _ rfl _ _ 22 9 rfl B 5 i0 Tryd.underlying22 Tryd.underlying9 hi hz0 hz1 hz2 _ _ _ rfl hown s rfl ?c3 ?c4 ?c5 ?_)
  case c3 => unfold maxLen; omega
  case c4 => omega
  case c5 => have := hb1.size; omega
  intro v' w2 hown' hgrow _
  have hlt : b < w1.heap.size := by
    rcases Nat.lt_or_ge b w1.heap.size with h' | h'
    · exact h'
    · simp [Array.getElem?_eq_none h'] at hbk
  have hb2 : w2.heap[b]? = some (.cells #[.pointer (some ⟨b, 0, none⟩), .slice ao l.length cap] 58 (0, 0)) := by
    rw [hgrow.block b hlt (fun e => hne e.symm)]
    exact hbk
  have d0 : w2.cell? ⟨b, 0, none⟩ = some (.pointer (some ⟨b, 0, none⟩)) := by rw [Lib.cell_of_heap hb2]; rfl
  have d1 : w2.cell? ⟨b, 1, none⟩ = some (.slice ao l.length cap) := by rw [Lib.cell_of_heap hb2]; rfl
  have f1 : w2.frozen? ⟨b, 1, none⟩ = false := Lib.frozen_of_heap hb2 1
  obtain ⟨ao', n', cap', rfl⟩ : ∃ ao n' cap, v' = .slice ao n' cap := by
    rcases hown'.2 with ⟨hv, _⟩ | ⟨g, cap, cur, hv, _⟩
    · exact ⟨_, _, _, hv⟩
    · exact ⟨_, _, _, hv⟩
  go_wp2
  go_ret2
  refine ⟨rfl, ?_, ?_⟩
  · refine Lib.BuilderAt.put (T := 58) (e := 5) hB hb2 (bs' := Lib.byteCells (l ++ s.data.toList)) ?_ (by decide)
    have : Lib.byteCells (l ++ s.data.toList) = Lib.byteCells l ++ Lib.strCells s := by simp [Lib.byteCells, Lib.strCells]
    rw [this]
    have e : (Lib.byteCells l ++ Lib.strCells s).length = l.length + s.size := by simp [hbl, Lib.strCells_length]
    rw [e]
    exact hown'
  · exact (hb1.grown hgrow (by have := hb1.size; omega) (fun k hk => (hown.lt k hk).1)).setCell (p := ⟨b, 1, none⟩) hB _
end Go.Proofs.YtnflhpgkffiloaaDoor
end
section
set_option linter.unusedSimpArgs false
set_option linter.unusedVariables false
namespace Go.Proofs.YtnflhpgkffiloaaDoor
open Go Go.RowKit Go.Proofs
set_option maxHeartbeats 400000
theorem Bldr.ext {B b : Nat} {l : List UInt8} {w w' : World} (h : Bldr B b l w) (he : Ext w w') : Bldr B b l w' := by
  rcases h with ⟨hB, v, hbk, hown, hne⟩ | ⟨hB, v, hbk, hown, hne⟩
  · exact .inl ⟨hB, v, he.block hbk, ownsRow_ext hown he, hne⟩
  · exact .inr ⟨hB, v, he.block hbk, ownsRow_ext hown he, hne⟩
end Go.Proofs.YtnflhpgkffiloaaDoor
end
