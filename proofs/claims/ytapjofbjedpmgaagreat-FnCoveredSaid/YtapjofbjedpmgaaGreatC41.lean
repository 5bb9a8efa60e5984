/- Contract: the parts of a valid proof by contexts.
Contract: the contexts that can follow one.
Contract: a proof by contexts is accepted where what is asked of it holds. -/
import Derived.Test.YtapjofbjedpmgaaGreatC40
import Derived.Test.YtapjofbjedpmgaaGreatC37
import Derived.Test.YtapjofbjedpmgaaGreatC29
import Derived.Test.YtapjofbjedpmgaaGreatC12
import Derived.Test.YtapjofbjedpmgaaGreatC07
import Derived.Test.YtapjofbjedpmgaaGreatC28
import Derived.Test.YtapjofbjedpmgaaGreatC19
import Derived.Test.YtapjofbjedpmgaaGreatC03
section
set_option linter.unusedSimpArgs false
set_option linter.unusedVariables false
namespace Go.Proofs.YtapjofbjedpmgaaGreat
open Go Go.RowKit Go.Proofs
set_option maxHeartbeats 400000
theorem PrfL.prf {w : World} {v : Value} {p : ProofD} (h : PrfL w v p) : Prf w v p := by
  obtain ⟨a, b, c, d, vs, e, f⟩ := h
  exact ⟨a, b, c, d, vs, e, fun i hi => by obtain ⟨u, x, y, _⟩ := f i hi; exact ⟨u, x, y⟩⟩
set_option maxRecDepth 20000 in
set_option maxHeartbeats 4000000 in
theorem setsOf_c (v : Value) (p : ProofD) (w : World) (h : PrfL w v p) (hp : prfOk p = true) (hs : setsB p = true) (h4 : 4 ≤ p.ns.length) :
    Calls Tryz.prog 26 #[v] w fun e w' => (∃ u, e = .returned (.tuple #[u, .int .i64 0]) ∧ SetsO w.heap.size w' u (setsP p)) ∧ Ext w w' := by
  obtain ⟨nv, wv, rfl, hn, hw⟩ := id h
  obtain ⟨An, cn, rfl, _, _⟩ := id hn.form
  obtain ⟨Aw, cw, rfl, _, _⟩ := id hw.form
  obtain ⟨W, hW⟩ : ∃ W, W = (w.alloc (.cells #[.int .i64 p.k, .slice An p.ns.length cn, .slice Aw p.ws.length cw] 34)).alloc (.cells #[.int .i64 0, .slice none 0 0, .slice none 0 0, .slice none 0 0] 58) := ⟨_, rfl⟩
  obtain ⟨g, hg⟩ : ∃ g, w.heap.size = g := ⟨_, rfl⟩
  have hX : Ext w W := by rw [hW]; exact (Ext.alloc _ _).trans (Ext.alloc _ _)
  have bP : Blk W g 34 #[.int .i64 p.k, .slice An p.ns.length cn, .slice Aw p.ws.length cw] := by rw [hW]; exact (Blk.new _ _ _ _ hg).alloc _
  have bO : Blk W (g + 1) 58 #[.int .i64 0, .slice none 0 0, .slice none 0 0, .slice none 0 0] := by rw [hW]; exact Blk.new _ _ _ _ (by simp [hg])
  have VP := ValidProof_c _ p W (h.ext hX).prf
  rw [hp] at VP
  have SI := fun W' (h' : Ext W W') => setsIn_c _ p W' ((h.ext hX).ext h') hp hs h4
  generalize setsP p = s at SI ⊢
  obtain ⟨pk, hpk⟩ : ∃ q, p.k = q := ⟨_, rfl⟩
  have p0 := bP.cell 0
  have p1 := bP.cell 1
  have p2 := bP.cell 2
  simp only [List.getElem?_toArray, List.getElem?_cons_zero, List.getElem?_cons_succ] at p0 p1 p2
  have HH := Lib.hid (And.intro hX (And.intro bP (And.intro bO hg)))
  clear hX bP bO h hn hw hp hs h4
  obtain ⟨ln, hln⟩ : ∃ k, p.ns.length = k := ⟨_, rfl⟩
  obtain ⟨lw, hlw⟩ : ∃ k, p.ws.length = k := ⟨_, rfl⟩
  rw [hpk, hln, hlw] at SI VP hW
  rw [hpk] at p0
  rw [hln] at p1
  rw [hlw] at p2
  rw [hpk, hln, hlw]
  clear hpk hln hlw
  go_enter Tryz.func26, Tryz.ntmps26
  go_upto_region 1 with fail
  try rw [← hW]
  try rw [hg]
  clear hW hg
  go_wp2_with fail
  refine VP.mono ?_
  rintro e w1 ⟨rfl, hx1⟩
  clear VP
  have SI := SI w1 hx1
  have p0 := hx1.cell p0
  have p1 := hx1.cell p1
  have p2 := hx1.cell p2
  go_wp2_with fail
  refine SI.mono ?_
  rintro e w2 ⟨⟨u, rfl, Al, cl, Ar, cr, Ac, cc, rfl, oL, oR, oC⟩, hx2⟩
  clear SI p0 p1 p2
  obtain ⟨V, hV⟩ : ∃ V, w2.alloc (.cells #[.int .i64 (s.n : Int), .slice Al s.l.length cl, .slice Ar s.r.length cr, .slice Ac s.c.length cc] 58) = V := ⟨_, rfl⟩
  obtain ⟨gs, hgs⟩ : ∃ q, w2.heap.size = q := ⟨_, rfl⟩
  have hxv : Ext w2 V := by rw [← hV]; exact Ext.alloc _ _
  have bV : Blk V gs 58 #[.int .i64 (s.n : Int), .slice Al s.l.length cl, .slice Ar s.r.length cr, .slice Ac s.c.length cc] := by rw [← hV]; exact Blk.new _ _ _ _ hgs
  have d0 := bV.cell 0
  have d1 := bV.cell 1
  have d2 := bV.cell 2
  have d3 := bV.cell 3
  have bO := HH.out.2.2.1.ext ((hx1.trans hx2).trans hxv)
  have o0 := bO.cell 0
  have o1 := bO.cell 1
  have o2 := bO.cell 2
  have o3 := bO.cell 3
  have z0 := bO.frozen 0
  have z1 := bO.frozen 1
  have z2 := bO.frozen 2
  have z3 := bO.frozen 3
  simp only [List.getElem?_toArray, List.getElem?_cons_zero, List.getElem?_cons_succ] at d0 d1 d2 d3 o0 o1 o2 o3
  have hgw : w.heap.size = g := HH.out.2.2.2
  have hw1 : w.heap.size ≤ w1.heap.size := (HH.out.1.trans hx1).size
  have HFIN : Hid (SetsO w.heap.size ((((V.setCell ⟨g + 1, 0, none⟩ (.int .i64 (s.n : Int))).setCell ⟨g + 1, 1, none⟩ (.slice Al s.l.length cl)).setCell ⟨g + 1, 2, none⟩ (.slice Ar s.r.length cr)).setCell ⟨g + 1, 3, none⟩ (.slice Ac s.c.length cc)) (.agg #[.int .i64 (s.n : Int), .slice Al s.l.length cl, .slice Ar s.r.length cr, .slice Ac s.c.length cc]) s ∧ Ext w ((((V.setCell ⟨g + 1, 0, none⟩ (.int .i64 (s.n : Int))).setCell ⟨g + 1, 1, none⟩ (.slice Al s.l.length cl)).setCell ⟨g + 1, 2, none⟩ (.slice Ar s.r.length cr)).setCell ⟨g + 1, 3, none⟩ (.slice Ac s.c.length cc))) := Lib.hid (by
    have b0 := bO.set_ 0 (.int .i64 (s.n : Int))
    have b1 := b0.set_ 1 (.slice Al s.l.length cl)
    have b2 := b1.set_ 2 (.slice Ar s.r.length cr)
    have far4 : ∀ {v : Value} {xss : List (List Int)}, OwnLists w1.heap.size w2 v xss → OwnLists w.heap.size ((((V.setCell ⟨g + 1, 0, none⟩ (.int .i64 (s.n : Int))).setCell ⟨g + 1, 1, none⟩ (.slice Al s.l.length cl)).setCell ⟨g + 1, 2, none⟩ (.slice Ar s.r.length cr)).setCell ⟨g + 1, 3, none⟩ (.slice Ac s.c.length cc)) v xss := fun h => (((((h.ext hxv).farX bO (by decide) (by decide) _ _).farX b0 (by decide) (by decide) _ _).farX b1 (by decide) (by decide) _ _).farX b2 (by decide) (by decide) _ _).base0 hw1
    exact ⟨⟨_, _, _, _, _, _, rfl, far4 oL, far4 oR, far4 oC⟩, ((((HH.out.1.trans ((hx1.trans hx2).trans hxv)).setCell (p := ⟨g + 1, 0, none⟩) (by simp only; omega) _).setCell (p := ⟨g + 1, 1, none⟩) (by simp only; omega) _).setCell (p := ⟨g + 1, 2, none⟩) (by simp only; omega) _).setCell (p := ⟨g + 1, 3, none⟩) (by simp only; omega) _⟩)
  obtain ⟨sn, hsn⟩ : ∃ q : Int, (s.n : Int) = q := ⟨_, rfl⟩
  obtain ⟨sl, hsl⟩ : ∃ q, s.l.length = q := ⟨_, rfl⟩
  obtain ⟨sr, hsr⟩ : ∃ q, s.r.length = q := ⟨_, rfl⟩
  obtain ⟨sc, hsc⟩ : ∃ q, s.c.length = q := ⟨_, rfl⟩
  rw [hsn, hsl, hsr, hsc] at HFIN hV
  rw [hsn] at d0
  rw [hsl] at d1
  rw [hsr] at d2
  rw [hsc] at d3
  rw [hsn, hsl, hsr, hsc]
  clear bO bV hxv hx1 hx2 oL oR oC hsn hsl hsr hsc
  go_upto_region 4 with fail
  try rw [hV]
  try rw [hgs]
  clear hV hgs
  go_wp2
  refine bodyPost_ret (v := .tuple #[.agg #[.int .i64 sn, .slice Al sl cl, .slice Ar sr cr, .slice Ac sc cc], .int .i64 0]) (by simp [results, Tryz.results26, go_sem, o0, o1, o2, o3]) rfl ?_
  exact ⟨⟨_, rfl, HFIN.out.1⟩, HFIN.out.2⟩
end Go.Proofs.YtapjofbjedpmgaaGreat
end
section
set_option linter.unusedSimpArgs false
set_option linter.unusedVariables false
namespace Go.Proofs.YtapjofbjedpmgaaGreat
open Go Go.RowKit Go.Proofs
set_option maxHeartbeats 400000
/-- joined at a block of slices. -/
theorem joinedB_c (g : Nat) (vs : List Value) (xss : List (List Int)) (w : World) (hb : Blk w g 27 vs.toArray) (hl : vs.length = xss.length) (he : ∀ i, (hi : i < xss.length) → ∃ u, vs[i]? = some u ∧ Ints w u xss[i] ∧ Flat u) (hn2 : xss.length ≤ 1000) (ht : tot xss ≤ 1048576) :
    Calls Tryz.prog 35 #[.slice (some ⟨g, 0, none⟩) xss.length xss.length] w fun e w' => ∃ u, e = .returned u ∧ OwnInts w.heap.size w' u xss.flatten ∧ Ext w w' :=
  joined_c _ xss vs w ⟨_, _, rfl, Nat.le_refl _, by omega, by omega, fun _ => ⟨g, 0, rfl, fun j hj => by have := hb.cell j; rw [Nat.zero_add]; simpa using this⟩⟩ he hn2 ht
/-- A block with one number is a list. -/
theorem ints_one {w : World} {g : Nat} {z : Int} (hb : Blk w g 2 #[.int .i64 z]) : Ints w (.slice (some ⟨g, 0, none⟩) [z].length 1) [z] := by
  refine ⟨_, _, rfl, Nat.le_refl _, by omega, rfl, fun _ => ⟨g, 0, rfl, fun j hj => ?_⟩⟩
  have : j = 0 := by simp [ivs] at hj; omega
  subst this
  have := hb.cell 0
  simpa [ivs] using this
theorem joinNew_c (g1 : Nat) (v1 : Value) (xs1 : List Int) (z : Int) (wr : World) (hg : wr.heap.size = g1) (h1 : Ints wr v1 xs1) (f1 : Flat v1) (hl : xs1.length ≤ 1000) :
    Calls Tryz.prog 35 #[.slice (some ⟨g1 + 1, 0, none⟩) 2 2] ((wr.alloc (.cells #[.int .i64 z] 2)).alloc (.cells #[v1, .slice (some ⟨g1, 0, none⟩) 1 1] 27)) fun e w' => ∃ u, e = .returned u ∧ OwnInts g1 w' u (xs1 ++ [z]) ∧ Ext wr w' := by
  have hx := (Ext.alloc wr (.cells #[.int .i64 z] 2)).trans (Ext.alloc _ (.cells #[v1, .slice (some ⟨g1, 0, none⟩) 1 1] 27))
  have b1 : Blk ((wr.alloc (.cells #[.int .i64 z] 2)).alloc (.cells #[v1, .slice (some ⟨g1, 0, none⟩) 1 1] 27)) g1 2 #[.int .i64 z] := (Blk.new _ _ _ _ hg).alloc _
  have b2 : Blk ((wr.alloc (.cells #[.int .i64 z] 2)).alloc (.cells #[v1, .slice (some ⟨g1, 0, none⟩) 1 1] 27)) (g1 + 1) 27 #[v1, .slice (some ⟨g1, 0, none⟩) 1 1] := Blk.new _ _ _ _ (by simp [hg])
  refine (joinedB_c (g1 + 1) [v1, .slice (some ⟨g1, 0, none⟩) 1 1] [xs1, [z]] _ b2 rfl (fun i hi => ?_) (by simp) (by simp [tot]; omega)).mono ?_
  · match i, hi with
    | 0, _ => exact ⟨_, rfl, h1.ext hx, f1⟩
    | 1, _ => exact ⟨_, rfl, ints_one b1, .inr ⟨_, _, _, _, rfl⟩⟩
  · rintro e w' ⟨u, rfl, o, x⟩
    have e2 : [xs1, [z]].flatten = xs1 ++ [z] := by simp
    rw [e2] at o
    exact ⟨u, rfl, ownsRow_base o (by have := hx.size; omega), hx.trans x⟩
theorem joinFour_c (g1 : Nat) (v1 v2 v3 v4 : Value) (x1 x2 x3 x4 : List Int) (wr : World) (hg : wr.heap.size = g1) (h1 : Ints wr v1 x1) (h2 : Ints wr v2 x2) (h3 : Ints wr v3 x3) (h4 : Ints wr v4 x4) (f1 : Flat v1) (f2 : Flat v2) (f3 : Flat v3) (f4 : Flat v4) (hl : x1.length + x2.length + x3.length + x4.length ≤ 1000) :
    Calls Tryz.prog 35 #[.slice (some ⟨g1, 0, none⟩) 4 4] (wr.alloc (.cells #[v1, v2, v3, v4] 27)) fun e w' => ∃ u, e = .returned u ∧ OwnInts g1 w' u (x1 ++ (x2 ++ (x3 ++ x4))) ∧ Ext wr w' := by
  have hx := Ext.alloc wr (.cells #[v1, v2, v3, v4] 27)
  have b2 : Blk (wr.alloc (.cells #[v1, v2, v3, v4] 27)) g1 27 #[v1, v2, v3, v4] := Blk.new _ _ _ _ hg
  refine (joinedB_c g1 [v1, v2, v3, v4] [x1, x2, x3, x4] _ b2 rfl (fun i hi => ?_) (by simp) (by simp [tot]; omega)).mono ?_
  · match i, hi with
    | 0, _ => exact ⟨_, rfl, h1.ext hx, f1⟩
    | 1, _ => exact ⟨_, rfl, h2.ext hx, f2⟩
    | 2, _ => exact ⟨_, rfl, h3.ext hx, f3⟩
    | 3, _ => exact ⟨_, rfl, h4.ext hx, f4⟩
  · rintro e w' ⟨u, rfl, o, x⟩
    have e2 : [x1, x2, x3, x4].flatten = x1 ++ (x2 ++ (x3 ++ x4)) := by simp
    rw [e2] at o
    exact ⟨u, rfl, ownsRow_base o (by have := hx.size; omega), hx.trans x⟩
theorem sideX_small {r : RuleD} {w : List Int} {n k : Nat} (h : ∀ z ∈ w, smallQ z) (hk : k ≤ 1000) : ∀ z ∈ sideX r w n k, smallQ z := fun z hz => by
  unfold sideX sideR sideL at hz
  split at hz
  · rcases List.mem_append.1 hz with hz | hz
    · exact h z (List.mem_of_mem_drop hz)
    · rw [List.mem_singleton.1 hz]; exact ⟨by omega, by omega⟩
  · rcases List.mem_append.1 hz with hz | hz
    · exact h z (List.mem_of_mem_take (List.mem_of_mem_drop hz))
    · rw [List.mem_singleton.1 hz]; exact ⟨by omega, by omega⟩
set_option maxRecDepth 200000 in
set_option maxHeartbeats 8000000 in
theorem following_c (S : Nat) (st : Int) (Am : Option Addr) (km cm : Nat) (r : RuleD) (gl ml nl gr mr nr b off c n : Nat) (TL TR : List Int → Bool) (xs : List Int) (w : World) (hS : S ≤ 6)
    (hSL : SetAt w gl ml nl n TL) (hSR : SetAt w gr mr nr n TR) (hx : Ints w (.slice (some ⟨b, off, none⟩) xs.length c) xs) (hl : xs.length = 2 * n + 1) (hn1 : 1 ≤ n) (hn : n ≤ 4) (hz : ∀ z ∈ xs, smallQ z) :
    Calls Tryz.prog 33 #[.agg #[.int .i64 (S : Int), .int .i64 st, .slice Am km cm], .agg #[.int .i64 r.w, .int .i64 r.m, .int .i64 r.n], .slice (some ⟨b, off, none⟩) xs.length c, .pointer (some ⟨gl, 0, none⟩), .pointer (some ⟨gr, 0, none⟩)] w
      fun e w' => ∃ u, e = .returned u ∧ OwnLists w.heap.size w' u (followX r xs n TL TR S) ∧ Ext w w' := by
  obtain ⟨r0i, hri, rz0, rz1, rz2⟩ := info_parts rowInfo
  obtain ⟨g, hg⟩ : ∃ g, w.heap.size = g := ⟨_, rfl⟩
  obtain ⟨W, hW⟩ : ∃ W, W = ((w.alloc (.cells #[.int .i64 (S : Int), .int .i64 st, .slice Am km cm] 26)).alloc (.cells #[.int .i64 r.w, .int .i64 r.m, .int .i64 r.n] 65)).alloc (.cells #[] 27) := ⟨_, rfl⟩
  have hX : Ext w W := by rw [hW]; exact ((Ext.alloc _ _).trans (Ext.alloc _ _)).trans (Ext.alloc _ _)
  have bM : Blk W g 26 #[.int .i64 (S : Int), .int .i64 st, .slice Am km cm] := by rw [hW]; exact ((Blk.new _ _ _ _ hg).alloc _).alloc _
  have bR : Blk W (g + 1) 65 #[.int .i64 r.w, .int .i64 r.m, .int .i64 r.n] := by rw [hW]; exact (Blk.new _ _ _ _ (by simp [hg])).alloc _
  have o0 : OwnLists g W (.slice (some ⟨g + 1 + 1, 0, none⟩) 0 0) [] := ⟨[], ⟨by simp, .inr ⟨g + 1 + 1, 0, #[], rfl, by omega, by rw [hW]; exact Blk.new _ _ _ _ (by simp [hg]), by simp, by unfold maxLen; omega, rfl, by simp⟩⟩, fun i hi => by simp at hi⟩
  have hcap : xs.length ≤ c := by
    obtain ⟨_, _, e, h, _⟩ := hx.form
    (injection e with _ _ e3) <;> omega
  have m0 := bM.cell 0
  simp only [List.getElem?_toArray, List.getElem?_cons_zero] at m0
  have hquo2 : (xs.length : Int) / 2 = (n : Int) := by omega
  have HWG : Hid (W.heap.size ≥ g ∧ w.heap.size = g) := Lib.hid ⟨by have := hX.size; omega, hg⟩
  have HH := Lib.hid (And.intro hX (And.intro bM (And.intro bR (And.intro hSL (And.intro hSR (And.intro hx (And.intro hl (And.intro hg hz))))))))
  have hcap2 : 2 * n + 1 ≤ c := by omega
  clear hX bM bR hSL hSR hx hl hz hcap
  obtain ⟨nx, hnx⟩ : ∃ k, xs.length = k := ⟨_, rfl⟩
  rw [hnx] at hquo2 ⊢
  have HNX := Lib.hid hnx
  have hnx2 : nx = 2 * n + 1 := by have := HH.out.2.2.2.2.2.2.1; omega
  have HN2 := Lib.hid hnx2
  have hxc : nx ≤ c := by omega
  have hx2 : n + 2 ≤ nx := by omega
  have hx3 : nx ≤ 9 := by omega
  clear hnx hnx2 hcap2
  go_enter Tryz.func33, Tryz.ntmps33
  go_wp2
  try rw [hg]
  try rw [← hW]
  clear hW hg
  go_loopw [12, 22] (fun u i wr => ∃ (k : Nat) (uv : Value), k ≤ S ∧ i = .int .i64 (k : Int) ∧ uv = u ∧ OwnLists g wr uv (followX r xs n TL TR k) ∧ Ext w wr ∧ Blk wr (g + 1) 65 #[.int .i64 r.w, .int .i64 r.m, .int .i64 r.n]) (fun _ i _ => S - (intOf i).toNat)
  case atStart => exact ⟨0, _, Nat.zero_le _, rfl, rfl, o0, HH.out.1, HH.out.2.2.1⟩
  case round =>
    clear o0
    obtain ⟨k, uv, hk, rfl, rfl, ho, hx', hbR⟩ := hrel
    obtain ⟨P, hP⟩ : ∃ P, followX r xs n TL TR k = P := ⟨_, rfl⟩
    rw [hP] at ho
    have hPl : P.length ≤ 6 := by have := followX_len r xs n TL TR k; rw [hP] at this; omega
    have HP := Lib.hid hP
    clear hP
    by_cases hlt : k < S
    · have hd : decide ((k : Int) < (S : Int)) = true := decide_eq_true (by omega)
      have hd' : (k : Int) < (S : Int) := by omega
      have hwk : IntKind.i64.wrap ((k : Int) + 1) = ((k + 1 : Nat) : Int) := by rw [show (k : Int) + 1 = ((k + 1 : Nat) : Int) by omega]; exact IntWalk.i64_in _ (by omega)
      have r1 := hbR.cell 1
      simp only [List.getElem?_toArray, List.getElem?_cons_zero, List.getElem?_cons_succ] at r1
      have HS : Hid (followX r xs n TL TR (k + 1) = P ++ if (if r.m = 1 then TR else TL) (padI (sideX r xs n k)) = true then [nextX r xs n k] else []) := Lib.hid (by rw [followX, HP.out])
      have HX := Lib.hid hx'
      have HBR := Lib.hid hbR
      have HO := Lib.hid ho
      have hle2 : ((n + 2 : Nat) : Int) ≤ (nx : Int) := by omega
      have hw2 : IntKind.i64.wrap ((n : Int) + 2) = ((n + 2 : Nat) : Int) := by rw [show (n : Int) + 2 = ((n + 2 : Nat) : Int) by omega]; exact IntWalk.i64_in _ (by omega)
      by_cases hm1 : r.m = 1
      · have hme : (r.m == 1) = true := by simp [hm1]
        have HM1 := Lib.hid hm1
        clear hm1 ho hbR
        go_upto_region 6 with fail
        go_cut [14] (fun u wx => OwnInts wr.heap.size wx u (sideR xs n k) ∧ Ext wr wx)
        case first =>
          clear r1
          obtain ⟨g1, hg1⟩ : ∃ q, wr.heap.size = q := ⟨_, rfl⟩
          by_cases hc2 : c = n + 2
          · subst hc2
            have hz2 : nx - (n + 2) = 0 := by omega
            have hdr : xs.drop (n + 2) = [] := List.drop_eq_nil_of_le (by have := HNX.out; omega)
            have JC := joinNew_c g1 (.slice (some ⟨b, off, none⟩) 0 0) [] (k : Int) wr hg1 ⟨_, _, rfl, Nat.le_refl _, by omega, rfl, fun hn => absurd hn (by decide)⟩ (.inr ⟨_, _, _, _, rfl⟩) (by simp)
            have HD := Lib.hid hdr
            clear hdr
            go_wp2_with fail
            try rw [hg1]
            refine JC.mono ?_
            rintro e w2 ⟨u, rfl, o, x⟩
            have HO2 := Lib.hid (And.intro o x)
            clear JC o x
            go_wp2
            go_meet
            exact ⟨by rw [hg1]; have := HO2.out.1; unfold sideR; rw [HD.out]; exact this, HO2.out.2⟩
          · have hi := (HH.out.2.2.2.2.2.1.ext HX.out).drop (n + 2) (by have := HNX.out; omega)
            rw [HNX.out] at hi
            have JC := joinNew_c g1 _ (xs.drop (n + 2)) (k : Int) wr hg1 hi (.inr ⟨_, _, _, _, rfl⟩) (by rw [List.length_drop, HNX.out]; omega)
            clear hi
            go_wp2_with fail
            try rw [hg1]
            refine JC.mono ?_
            rintro e w2 ⟨u, rfl, o, x⟩
            have HO2 := Lib.hid (And.intro o x)
            clear JC o x
            go_wp2
            go_meet
            exact ⟨by rw [hg1]; exact HO2.out.1, HO2.out.2⟩
        case rest =>
          obtain ⟨ou, hxc⟩ := hcut
          have hsx : sideX r xs n k = sideR xs n k := by unfold sideX; rw [if_pos HM1.out]
          obtain ⟨sd, hsd⟩ : ∃ q, sideR xs n k = q := ⟨_, rfl⟩
          rw [hsd] at ou hsx
          have hsl : sd.length = n := by rw [← hsx]; exact sideX_len (by have := HNX.out; have := HN2.out; omega) hn1
          have hsm : ∀ z ∈ sd, smallQ z := by rw [← hsx]; exact sideX_small HH.out.2.2.2.2.2.2.2.2 (by omega)
          obtain ⟨bu, ofu, cu, rfl⟩ := ints_at (ownsRow_row ou) (by omega)
          have HC := has_c gr mr nr n bu ofu cu TR sd wc ((HH.out.2.2.2.2.1.ext HX.out).ext hxc) (ownsRow_row ou) (by omega) (by omega) hsm
          obtain ⟨y, hy⟩ : ∃ y, TR (padI sd) = y := ⟨_, rfl⟩
          rw [hy] at HC
          have HSD := Lib.hid (And.intro (ownsRow_row ou) (And.intro hsl (And.intro hsd hxc)))
          have HY : Hid (followX r xs n TL TR (k + 1) = P ++ if y = true then [nextX r xs n k] else []) := Lib.hid (by
            rw [HS.out, hsx, if_pos HM1.out, hy])
          clear ou hsx hsl hsm hy hsd r1
          obtain ⟨ns, hns⟩ : ∃ q, sd.length = q := ⟨_, rfl⟩
          rw [hns] at HC ⊢
          have HNS := Lib.hid hns
          clear hns
          go_wp2_with fail
          refine HC.mono ?_
          rintro e w3 ⟨rfl, hx3⟩
          clear HC
          cases y with
          | false =>
            have HO3 : Hid (OwnLists g w3 uv (followX r xs n TL TR (k + 1))) := Lib.hid (by rw [HY.out, if_neg (by decide), List.append_nil]; exact (HO.out.ext hxc).ext hx3)
            go_wp2
            go_roundw
            case rel => exact ⟨k + 1, _, by omega, by go_num, rfl, HO3.out, (HX.out.trans hxc).trans hx3, HBR.out.ext (hxc.trans hx3)⟩
            case measure => simp [intOf]; omega
          | true =>
            obtain ⟨vs, hq, hqi⟩ := HO.out
            obtain ⟨Av, cv, rfl, _, _, _⟩ := (ownsRow_row hq).form
            have r0 := (HBR.out.ext (hxc.trans hx3)).cell 0
            simp only [List.getElem?_toArray, List.getElem?_cons_zero, List.getElem?_cons_succ] at r0
            have hwm : IntKind.i64.wrap ((n : Int) - 1) = ((n - 1 : Nat) : Int) := by rw [show (n : Int) - 1 = ((n - 1 : Nat) : Int) by omega]; exact IntWalk.i64_in _ (by omega)
            have hwp : IntKind.i64.wrap ((n : Int) + 1) = ((n + 1 : Nat) : Int) := by rw [show (n : Int) + 1 = ((n + 1 : Nat) : Int) by omega]; exact IntWalk.i64_in _ (by omega)
            have hwd : IntKind.i64.wrap (2 * (n : Int)) = ((2 * n : Nat) : Int) := by rw [show 2 * (n : Int) = ((2 * n : Nat) : Int) by omega]; exact IntWalk.i64_in _ (by omega)
            go_upto_region 8 with fail
            refine wp_region_ordT 18 (readsT [0, 1, 2, 4, 5, 6, 7, 8, 9, 10, 11, 12, 13, 14] (.stir 3 (.stir 15 (.stir 16 (.stir 17 .done))))) (by kernel_rfl) (by kernel_rfl) (fun _ _ _ _ _ h => h) ?_
            simp only [readsT]
            iterate 6 (refine wpOrdT_read (v := ?_) (by rfl) (Or.inl ⟨by rfl, fun x hx => ?_⟩) ?_; rotate_left; (· have r0 := hx.cell ((Ext.drew w3).cell r0); go_simp; try first | with_reducible rfl | (rw [hwm]; try with_reducible rfl) | (rw [hwp]; try with_reducible rfl) | (rw [hw2]; try with_reducible rfl) | (rw [hwd]; try with_reducible rfl)); try simp only [Act.put, List.setIfInBounds_toArray, List.set_cons_zero, List.set_cons_succ])
            refine wpOrdT_read (v := .slice (some ⟨b, off, none⟩) (n - 1) c) (by rfl) (Or.inl ⟨by rfl, fun x hx => ?_⟩) ?_
            · go_simp
              try (intro hh; exact absurd hh (by omega))
            try simp only [Act.put, List.setIfInBounds_toArray, List.set_cons_zero, List.set_cons_succ]
            iterate 5 (refine wpOrdT_read (v := ?_) (by rfl) (Or.inl ⟨by rfl, fun x hx => ?_⟩) ?_; rotate_left; (· have r0 := hx.cell ((Ext.drew w3).cell r0); go_simp; try first | with_reducible rfl | (rw [hwm]; try with_reducible rfl) | (rw [hwp]; try with_reducible rfl) | (rw [hw2]; try with_reducible rfl) | (rw [hwd]; try with_reducible rfl)); try simp only [Act.put, List.setIfInBounds_toArray, List.set_cons_zero, List.set_cons_succ])
            refine wpOrdT_read (v := .slice (some ⟨b, off + (n + 1), none⟩) 1 (c - (n + 1))) (by rfl) (Or.inl ⟨by rfl, fun x hx => ?_⟩) ?_
            · go_simp
              have hmx : max ((n : Int) + 2) 0 = (n : Int) + 2 := by omega
              rw [hmx, if_pos ⟨by omega, by omega⟩, if_neg (show ¬ c = n + 1 by have := HNX.out; have := HN2.out; omega)]
              have e9 : ((n : Int) + 2).toNat - (n + 1) = 1 := by omega
              rw [e9]
              try rw [if_pos ⟨by omega, by have := HNX.out; have := HN2.out; omega⟩]
            try simp only [Act.put, List.setIfInBounds_toArray, List.set_cons_zero, List.set_cons_succ]
            iterate 1 (refine wpOrdT_read (v := ?_) (by rfl) (Or.inl ⟨by rfl, fun x hx => ?_⟩) ?_; rotate_left; (· have r0 := hx.cell ((Ext.drew w3).cell r0); go_simp; try first | with_reducible rfl | (rw [hwm]; try with_reducible rfl) | (rw [hwp]; try with_reducible rfl) | (rw [hw2]; try with_reducible rfl) | (rw [hwd]; try with_reducible rfl)); try simp only [Act.put, List.setIfInBounds_toArray, List.set_cons_zero, List.set_cons_succ])
            have hxd : Ext w3 w3.drew := Ext.drew w3
            generalize w3.drew = w0 at *
            obtain ⟨gz, hgz⟩ : ∃ q, w0.heap.size = q := ⟨_, rfl⟩
            refine wpOrdT_keep (by rfl) (fun K hK => ?_)
            go_simp
            have e4 : Ext w0 (w0.alloc (.cells #[.int .i64 r.w] 2)) := Ext.alloc _ _
            have bz : Blk (w0.alloc (.cells #[.int .i64 r.w] 2)) gz 2 #[.int .i64 r.w] := Blk.new _ _ _ _ hgz
            have hgz4 : (w0.alloc (.cells #[.int .i64 r.w] 2)).heap.size = gz + 1 := by simp [hgz]
            refine hK _ _ e4 ?_
            clear hK K
            try rw [hgz]
            generalize (w0.alloc (.cells #[.int .i64 r.w] 2)) = w4 at *
            have hX4 := ((HX.out.trans hxc).trans hx3).trans (hxd.trans e4)
            try simp only [Act.put, List.setIfInBounds_toArray, List.set_cons_zero, List.set_cons_succ]
            have HXX := Lib.hid (And.intro hX4 (And.intro hxd e4))
            refine wpOrdT_keep (by rfl) (fun K hK => ?_)
            go_simp
            have hgz2 : w3.heap.size ≤ gz := by have := hxd.size; omega
            have p1 : Ints w4 (.slice (some ⟨gz, 0, none⟩) 1 1) [r.w] := ints_one bz
            have p2 : Ints w4 (.slice (some ⟨b, off, none⟩) (n - 1) c) (xs.take (n - 1)) := (HH.out.2.2.2.2.2.1.ext hX4).take (n - 1) (by have := HNX.out; omega)
            have p3 : Ints w4 (.slice (some ⟨b, off + (n + 1), none⟩) 1 (c - (n + 1))) [xs.getD (n + 1) 0] := by
              have h9 := (HH.out.2.2.2.2.2.1.ext hX4).partX (n + 1) 1 (by have := HNX.out; omega)
              have e9 : (xs.drop (n + 1)).take 1 = [xs.getD (n + 1) 0] := by
                rw [List.drop_eq_getElem_cons (by have := HNX.out; omega), List.getD_eq_getElem?_getD, List.getElem?_eq_getElem (by have := HNX.out; omega)]
                rfl
              rw [e9] at h9
              exact h9
            have p4 : Ints w4 (.slice (some ⟨bu, ofu, none⟩) sd.length cu) sd := HSD.out.1.ext (hx3.trans (hxd.trans e4))
            have JC := joinFour_c (gz + 1) _ _ _ _ [r.w] (xs.take (n - 1)) [xs.getD (n + 1) 0] sd w4 hgz4 p1 p2 p3 p4 (.inr ⟨_, _, _, _, rfl⟩) (.inr ⟨_, _, _, _, rfl⟩) (.inr ⟨_, _, _, _, rfl⟩) (.inr ⟨_, _, _, _, rfl⟩) (by have := HNX.out; have := HSD.out.2.1; simp only [List.length_take, List.length_cons, List.length_nil]; omega)
            have ENX : Hid ([r.w] ++ (xs.take (n - 1) ++ ([xs.getD (n + 1) 0] ++ sd)) = nextX r xs n k) := Lib.hid (by unfold nextX; rw [if_pos HM1.out, ← HSD.out.2.2.1]; rfl)
            clear p1 p2 p3 p4
            rw [HNS.out] at JC
            refine hK _ _ (e4.trans (Ext.alloc _ _)) ?_
            clear hK K
            try rw [hgz4]
            try simp only [Act.put, List.setIfInBounds_toArray, List.set_cons_zero, List.set_cons_succ]
            refine wpOrdT_keep (by rfl) (fun K hK => ?_)
            go_simp
            go_at_call 35
            refine JC.mono ?_
            rintro e w5 ⟨uj, rfl, oj, hx5⟩
            rw [ENX.out] at oj
            refine hK _ _ (e4.trans hx5) ?_
            clear hK K JC
            try simp only [Act.put, List.setIfInBounds_toArray, List.set_cons_zero, List.set_cons_succ]
            obtain ⟨Aj, cj, rfl, _, _, _⟩ := (ownsRow_row oj).form
            refine wpOrdT_keep (by rfl) (fun K hK => ?_)
            go_simp
            refine hK _ _ (e4.trans (hx5.trans (Ext.alloc _ _))) ?_
            clear hK K
            refine wpOrdT_done ?_
            try simp only [List.drop_succ_cons, List.drop_zero]
            obtain ⟨yy, hyy⟩ : ∃ q, nextX r xs n k = q := ⟨_, rfl⟩
            rw [hyy] at oj HY ⊢
            have e6 := Ext.alloc w5 (.cells #[.slice Aj yy.length cj] 27)
            have hX6 := ((((hxc.trans hx3).trans (hxd.trans e4)).trans hx5).trans e6)
            have hgg : w.heap.size = g := HH.out.2.2.2.2.2.2.2.1
            have hgw0 : g ≤ gz := by have := HH.out.1.size; have := HX.out.size; have := hxc.size; have := hx3.size; omega
            have q1 := ownsRow_ext hq hX6
            have q2 : ∀ i, (hi : i < P.length) → ∃ u, vs[i]? = some u ∧ OwnInts g (w5.alloc (.cells #[.slice Aj yy.length cj] 27)) u P[i] := fun i hi => by obtain ⟨u, a, b⟩ := hqi i hi; exact ⟨u, a, ownsRow_ext b hX6⟩
            have oz2 : OwnInts g (w5.alloc (.cells #[.slice Aj yy.length cj] 27)) (.slice Aj yy.length cj) yy := ownsRow_base (ownsRow_ext oj e6) (by omega)
            have HOZ := Lib.hid oz2
            have HQ2 := Lib.hid q2
            have HX6 := Lib.hid (And.intro (HX.out.trans hX6) (HBR.out.ext hX6))
            have hszb : g ≤ (w5.alloc (.cells #[.slice Aj yy.length cj] 27)).heap.size := by have := e6.size; have := hx5.size; omega
            clear oz2 q2 oj r0 e6 hX6 hqi hq hyy ENX bz hgz4 hX4 HXX e4 hx5 hxd
            generalize yy.length = ny at *
            go_wp2_with (at_builtin; refine wpList_append_own_at _ rfl _ _ 32 rfl g 27 r0i (.slice none 0 0) 1 24 Tryz.underlying32 hri rz0 rz1 rz2 rfl (by decide) _ _ _ rfl q1 ⟨w5.heap.size, 0, none⟩ 1 1 [.slice Aj ny cj] rfl rfl (cell_one_new _ _ _) ?c2 ?c3 ?c4 ?c5 ?_)
            case c2 => intro u hu; simp at hu; subst hu; rfl
            case c3 => unfold maxLen; omega
            case c4 => omega
            case c5 => exact hszb
            intro v' w7 hown7 hg7 _ hloc
            have hx7 : Ext w w7 := HX6.out.1.grown hg7 (fun j hj => by have := (q1.lt j hj).1; have := HWG.out.2; omega)
            have hb7 := HX6.out.2.kept hg7 (blk_ne_row HX6.out.2 q1 (by decide))
            have HS7 : Hid (OwnLists g w7 v' (followX r xs n TL TR (k + 1))) := Lib.hid (by rw [HY.out, if_pos trivial]; exact OwnLists.snoc q1 HQ2.out HOZ.out hown7 hg7)
            have HX7 := Lib.hid (And.intro hx7 hb7)
            clear hown7 hg7 q1 hx7 hb7 hloc hszb
            go_wp2
            go_roundw
            case rel => exact ⟨k + 1, _, by omega, by go_num, rfl, HS7.out, HX7.out.1, HX7.out.2⟩
            case measure => simp [intOf]; omega
      · have hme : (r.m == 1) = false := by simp [hm1]
        have HM1 := Lib.hid hm1
        clear hm1 ho hbR
        go_upto_region 9 with fail
        go_cut [15] (fun u wx => OwnInts wr.heap.size wx u (sideL xs n k) ∧ Ext wr wx)
        case first =>
          clear r1
          obtain ⟨g1, hg1⟩ : ∃ q, wr.heap.size = q := ⟨_, rfl⟩
          have hi := (HH.out.2.2.2.2.2.1.ext HX.out).partX 1 (n - 1) (by have := HNX.out; omega)
          have e1 : (xs.drop 1).take (n - 1) = (xs.take n).drop 1 := by rw [List.drop_take]
          rw [e1] at hi
          have JC := joinNew_c g1 _ ((xs.take n).drop 1) (k : Int) wr hg1 hi (.inr ⟨_, _, _, _, rfl⟩) (by rw [List.length_drop, List.length_take]; omega)
          clear hi e1
          go_wp2_with fail
          try rw [hg1]
          refine JC.mono ?_
          rintro e w2 ⟨u, rfl, o, x⟩
          have HO2 := Lib.hid (And.intro o x)
          clear JC o x
          go_wp2
          go_meet
          exact ⟨by rw [hg1]; exact HO2.out.1, HO2.out.2⟩
        case rest =>
          obtain ⟨ou, hxc⟩ := hcut
          have hsx : sideX r xs n k = sideL xs n k := by unfold sideX; rw [if_neg HM1.out]
          obtain ⟨sd, hsd⟩ : ∃ q, sideL xs n k = q := ⟨_, rfl⟩
          rw [hsd] at ou hsx
          have hsl : sd.length = n := by rw [← hsx]; exact sideX_len (by have := HNX.out; have := HN2.out; omega) hn1
          have hsm : ∀ z ∈ sd, smallQ z := by rw [← hsx]; exact sideX_small HH.out.2.2.2.2.2.2.2.2 (by omega)
          obtain ⟨bu, ofu, cu, rfl⟩ := ints_at (ownsRow_row ou) (by omega)
          have HC := has_c gl ml nl n bu ofu cu TL sd wc ((HH.out.2.2.2.1.ext HX.out).ext hxc) (ownsRow_row ou) (by omega) (by omega) hsm
          obtain ⟨y, hy⟩ : ∃ y, TL (padI sd) = y := ⟨_, rfl⟩
          rw [hy] at HC
          have HSD := Lib.hid (And.intro (ownsRow_row ou) (And.intro hsl (And.intro hsd hxc)))
          have HY : Hid (followX r xs n TL TR (k + 1) = P ++ if y = true then [nextX r xs n k] else []) := Lib.hid (by
            rw [HS.out, hsx, if_neg HM1.out, hy])
          clear ou hsx hsl hsm hy hsd r1
          obtain ⟨ns, hns⟩ : ∃ q, sd.length = q := ⟨_, rfl⟩
          rw [hns] at HC ⊢
          have HNS := Lib.hid hns
          clear hns
          go_wp2_with fail
          refine HC.mono ?_
          rintro e w3 ⟨rfl, hx3⟩
          clear HC
          cases y with
          | false =>
            have HO3 : Hid (OwnLists g w3 uv (followX r xs n TL TR (k + 1))) := Lib.hid (by rw [HY.out, if_neg (by decide), List.append_nil]; exact (HO.out.ext hxc).ext hx3)
            go_wp2
            go_roundw
            case rel => exact ⟨k + 1, _, by omega, by go_num, rfl, HO3.out, (HX.out.trans hxc).trans hx3, HBR.out.ext (hxc.trans hx3)⟩
            case measure => simp [intOf]; omega
          | true =>
            obtain ⟨vs, hq, hqi⟩ := HO.out
            obtain ⟨Av, cv, rfl, _, _, _⟩ := (ownsRow_row hq).form
            have r0 := (HBR.out.ext (hxc.trans hx3)).cell 0
            simp only [List.getElem?_toArray, List.getElem?_cons_zero, List.getElem?_cons_succ] at r0
            have hwm : IntKind.i64.wrap ((n : Int) - 1) = ((n - 1 : Nat) : Int) := by rw [show (n : Int) - 1 = ((n - 1 : Nat) : Int) by omega]; exact IntWalk.i64_in _ (by omega)
            have hwp : IntKind.i64.wrap ((n : Int) + 1) = ((n + 1 : Nat) : Int) := by rw [show (n : Int) + 1 = ((n + 1 : Nat) : Int) by omega]; exact IntWalk.i64_in _ (by omega)
            have hwd : IntKind.i64.wrap (2 * (n : Int)) = ((2 * n : Nat) : Int) := by rw [show 2 * (n : Int) = ((2 * n : Nat) : Int) by omega]; exact IntWalk.i64_in _ (by omega)
            go_upto_region 11 with fail
            refine wp_region_ordT 16 (readsT [0, 1, 2, 3, 4, 5, 7, 8, 9, 10, 11, 12] (.stir 6 (.stir 13 (.stir 14 (.stir 15 .done))))) (by kernel_rfl) (by kernel_rfl) (fun _ _ _ _ _ h => h) ?_
            simp only [readsT]
            iterate 3 (refine wpOrdT_read (v := ?_) (by rfl) (Or.inl ⟨by rfl, fun x hx => ?_⟩) ?_; rotate_left; (· have r0 := hx.cell ((Ext.drew w3).cell r0); go_simp; try first | with_reducible rfl | (rw [hwm]; try with_reducible rfl) | (rw [hwp]; try with_reducible rfl) | (rw [hw2]; try with_reducible rfl) | (rw [hwd]; try with_reducible rfl)); try simp only [Act.put, List.setIfInBounds_toArray, List.set_cons_zero, List.set_cons_succ])
            refine wpOrdT_read (v := .slice (some ⟨b, off, none⟩) 1 c) (by rfl) (Or.inl ⟨by rfl, fun x hx => ?_⟩) ?_
            · go_simp
              try (first | rfl | (intro hh; exact absurd hh (by omega)) | omega)
            try simp only [Act.put, List.setIfInBounds_toArray, List.set_cons_zero, List.set_cons_succ]
            iterate 7 (refine wpOrdT_read (v := ?_) (by rfl) (Or.inl ⟨by rfl, fun x hx => ?_⟩) ?_; rotate_left; (· have r0 := hx.cell ((Ext.drew w3).cell r0); go_simp; try first | with_reducible rfl | (rw [hwm]; try with_reducible rfl) | (rw [hwp]; try with_reducible rfl) | (rw [hw2]; try with_reducible rfl) | (rw [hwd]; try with_reducible rfl)); try simp only [Act.put, List.setIfInBounds_toArray, List.set_cons_zero, List.set_cons_succ])
            refine wpOrdT_read (v := .slice (some ⟨b, off + (n + 1), none⟩) (n - 1) (c - (n + 1))) (by rfl) (Or.inl ⟨by rfl, fun x hx => ?_⟩) ?_
            · go_simp
              have hmx : max (2 * (n : Int)) 0 = 2 * (n : Int) := by omega
              rw [hmx, if_pos ⟨by omega, by have := HNX.out; have := HN2.out; omega⟩, if_neg (show ¬ c = n + 1 by have := HNX.out; have := HN2.out; omega)]
              have e9 : (2 * (n : Int)).toNat - (n + 1) = n - 1 := by omega
              rw [e9]
              try rw [if_pos ⟨by omega, by have := HNX.out; have := HN2.out; omega⟩]
            try simp only [Act.put, List.setIfInBounds_toArray, List.set_cons_zero, List.set_cons_succ]
            have hxd : Ext w3 w3.drew := Ext.drew w3
            generalize w3.drew = w0 at *
            obtain ⟨gz, hgz⟩ : ∃ q, w0.heap.size = q := ⟨_, rfl⟩
            refine wpOrdT_keep (by rfl) (fun K hK => ?_)
            go_simp
            have e4 : Ext w0 (w0.alloc (.cells #[.int .i64 r.w] 2)) := Ext.alloc _ _
            have bz : Blk (w0.alloc (.cells #[.int .i64 r.w] 2)) gz 2 #[.int .i64 r.w] := Blk.new _ _ _ _ hgz
            have hgz4 : (w0.alloc (.cells #[.int .i64 r.w] 2)).heap.size = gz + 1 := by simp [hgz]
            refine hK _ _ e4 ?_
            clear hK K
            try rw [hgz]
            generalize (w0.alloc (.cells #[.int .i64 r.w] 2)) = w4 at *
            have hX4 := ((HX.out.trans hxc).trans hx3).trans (hxd.trans e4)
            try simp only [Act.put, List.setIfInBounds_toArray, List.set_cons_zero, List.set_cons_succ]
            have HXX := Lib.hid (And.intro hX4 (And.intro hxd e4))
            refine wpOrdT_keep (by rfl) (fun K hK => ?_)
            go_simp
            have hgz2 : w3.heap.size ≤ gz := by have := hxd.size; omega
            have p1 : Ints w4 (.slice (some ⟨gz, 0, none⟩) 1 1) [r.w] := ints_one bz
            have p2 : Ints w4 (.slice (some ⟨b, off, none⟩) 1 c) [xs.getD 0 0] := by
              have h9 := (HH.out.2.2.2.2.2.1.ext hX4).take 1 (by have := HNX.out; omega)
              have e9 : xs.take 1 = [xs.getD 0 0] := by
                have := HNX.out
                cases xs with
                | nil => simp at this; omega
                | cons a l => rfl
              rw [e9] at h9
              exact h9
            have p3 : Ints w4 (.slice (some ⟨b, off + (n + 1), none⟩) (n - 1) (c - (n + 1))) ((xs.drop (n + 1)).take (n - 1)) := (HH.out.2.2.2.2.2.1.ext hX4).partX (n + 1) (n - 1) (by have := HNX.out; have := HN2.out; omega)
            have p4 : Ints w4 (.slice (some ⟨bu, ofu, none⟩) sd.length cu) sd := HSD.out.1.ext (hx3.trans (hxd.trans e4))
            have JC := joinFour_c (gz + 1) _ _ _ _ sd [xs.getD 0 0] [r.w] ((xs.drop (n + 1)).take (n - 1)) w4 hgz4 p4 p2 p1 p3 (.inr ⟨_, _, _, _, rfl⟩) (.inr ⟨_, _, _, _, rfl⟩) (.inr ⟨_, _, _, _, rfl⟩) (.inr ⟨_, _, _, _, rfl⟩) (by have := HNX.out; have := HN2.out; have := HSD.out.2.1; simp only [List.length_take, List.length_drop, List.length_cons, List.length_nil]; omega)
            have ENX : Hid (sd ++ ([xs.getD 0 0] ++ ([r.w] ++ (xs.drop (n + 1)).take (n - 1))) = nextX r xs n k) := Lib.hid (by unfold nextX; rw [if_neg HM1.out, ← HSD.out.2.2.1]; rfl)
            clear p1 p2 p3 p4
            rw [HNS.out] at JC
            refine hK _ _ (e4.trans (Ext.alloc _ _)) ?_
            clear hK K
            try rw [hgz4]
            try simp only [Act.put, List.setIfInBounds_toArray, List.set_cons_zero, List.set_cons_succ]
            refine wpOrdT_keep (by rfl) (fun K hK => ?_)
            go_simp
            go_at_call 35
            refine JC.mono ?_
            rintro e w5 ⟨uj, rfl, oj, hx5⟩
            rw [ENX.out] at oj
            refine hK _ _ (e4.trans hx5) ?_
            clear hK K JC
            try simp only [Act.put, List.setIfInBounds_toArray, List.set_cons_zero, List.set_cons_succ]
            obtain ⟨Aj, cj, rfl, _, _, _⟩ := (ownsRow_row oj).form
            refine wpOrdT_keep (by rfl) (fun K hK => ?_)
            go_simp
            refine hK _ _ (e4.trans (hx5.trans (Ext.alloc _ _))) ?_
            clear hK K
            refine wpOrdT_done ?_
            try simp only [List.drop_succ_cons, List.drop_zero]
            obtain ⟨yy, hyy⟩ : ∃ q, nextX r xs n k = q := ⟨_, rfl⟩
            rw [hyy] at oj HY ⊢
            have e6 := Ext.alloc w5 (.cells #[.slice Aj yy.length cj] 27)
            have hX6 := ((((hxc.trans hx3).trans (hxd.trans e4)).trans hx5).trans e6)
            have hgg : w.heap.size = g := HH.out.2.2.2.2.2.2.2.1
            have hgw0 : g ≤ gz := by have := HH.out.1.size; have := HX.out.size; have := hxc.size; have := hx3.size; omega
            have q1 := ownsRow_ext hq hX6
            have q2 : ∀ i, (hi : i < P.length) → ∃ u, vs[i]? = some u ∧ OwnInts g (w5.alloc (.cells #[.slice Aj yy.length cj] 27)) u P[i] := fun i hi => by obtain ⟨u, a, b⟩ := hqi i hi; exact ⟨u, a, ownsRow_ext b hX6⟩
            have oz2 : OwnInts g (w5.alloc (.cells #[.slice Aj yy.length cj] 27)) (.slice Aj yy.length cj) yy := ownsRow_base (ownsRow_ext oj e6) (by omega)
            have HOZ := Lib.hid oz2
            have HQ2 := Lib.hid q2
            have HX6 := Lib.hid (And.intro (HX.out.trans hX6) (HBR.out.ext hX6))
            have hszb : g ≤ (w5.alloc (.cells #[.slice Aj yy.length cj] 27)).heap.size := by have := e6.size; have := hx5.size; omega
            clear oz2 q2 oj r0 e6 hX6 hqi hq hyy ENX bz hgz4 hX4 HXX e4 hx5 hxd
            generalize yy.length = ny at *
            go_wp2_with (at_builtin; refine wpList_append_own_at _ rfl _ _ 32 rfl g 27 r0i (.slice none 0 0) 1 24 Tryz.underlying32 hri rz0 rz1 rz2 rfl (by decide) _ _ _ rfl q1 ⟨w5.heap.size, 0, none⟩ 1 1 [.slice Aj ny cj] rfl rfl (cell_one_new _ _ _) ?c2 ?c3 ?c4 ?c5 ?_)
            case c2 => intro u hu; simp at hu; subst hu; rfl
            case c3 => unfold maxLen; omega
            case c4 => omega
            case c5 => exact hszb
            intro v' w7 hown7 hg7 _ hloc
            have hx7 : Ext w w7 := HX6.out.1.grown hg7 (fun j hj => by have := (q1.lt j hj).1; have := HWG.out.2; omega)
            have hb7 := HX6.out.2.kept hg7 (blk_ne_row HX6.out.2 q1 (by decide))
            have HS7 : Hid (OwnLists g w7 v' (followX r xs n TL TR (k + 1))) := Lib.hid (by rw [HY.out, if_pos trivial]; exact OwnLists.snoc q1 HQ2.out HOZ.out hown7 hg7)
            have HX7 := Lib.hid (And.intro hx7 hb7)
            clear hown7 hg7 q1 hx7 hb7 hloc hszb
            go_wp2
            go_roundw
            case rel => exact ⟨k + 1, _, by omega, by go_num, rfl, HS7.out, HX7.out.1, HX7.out.2⟩
            case measure => simp [intOf]; omega
    · have hd : decide ((k : Int) < (S : Int)) = false := decide_eq_false (by omega)
      have hd' : ¬ (k : Int) < (S : Int) := by omega
      have hkS : k = S := by omega
      subst hkS
      have HO : Hid (OwnLists w.heap.size wr uv (followX r xs n TL TR k)) := Lib.hid (by rw [HP.out, HH.out.2.2.2.2.2.2.2.1]; exact ho)
      have HX := Lib.hid hx'
      clear ho hx' hbR
      go_wp2
      go_ret
      exact ⟨_, rfl, HO.out, HX.out⟩
end Go.Proofs.YtapjofbjedpmgaaGreat
end
section
set_option linter.unusedSimpArgs false
set_option linter.unusedVariables false
namespace Go.Proofs.YtapjofbjedpmgaaGreat
open Go Go.RowKit Go.Proofs
set_option maxHeartbeats 400000
theorem nextX_small {r : RuleD} {w : List Int} {n k : Nat} (h : ∀ z ∈ w, smallQ z) (hk : k ≤ 1000) (hr : smallQ r.w) : ∀ z ∈ nextX r w n k, smallQ z := fun z hz => by
  have hg : ∀ i, smallQ (w.getD i 0) := fun i => by
    rw [List.getD_eq_getElem?_getD]
    rcases e : w[i]? with _ | y
    · exact ⟨by simp, by simp⟩
    · exact h y (List.mem_of_getElem? e)
  unfold nextX nextR nextL at hz
  split at hz
  · rename_i hm
    rcases List.mem_cons.1 hz with rfl | hz
    · exact hr
    · rcases List.mem_append.1 hz with hz | hz
      · exact h z (List.mem_of_mem_take hz)
      · rcases List.mem_cons.1 hz with rfl | hz
        · exact hg _
        · have := sideX_small (r := r) (n := n) (k := k) h hk z
          unfold sideX at this
          rw [if_pos hm] at this
          exact this hz
  · rename_i hm
    rcases List.mem_append.1 hz with hz | hz
    · have := sideX_small (r := r) (n := n) (k := k) h hk z
      unfold sideX at this
      rw [if_neg hm] at this
      exact this hz
    · rcases List.mem_cons.1 hz with rfl | hz
      · exact hg _
      · rcases List.mem_cons.1 hz with rfl | hz
        · exact hr
        · exact h z (List.mem_of_mem_drop (List.mem_of_mem_take hz))
theorem lostX_small {r : RuleD} {w : List Int} (h : ∀ z ∈ w, smallQ z) : ∀ z ∈ lostX r w, smallQ z := fun z hz => by
  unfold lostX at hz
  split at hz
  · exact h z (List.mem_of_mem_take hz)
  · exact h z (List.mem_of_mem_drop hz)
theorem lostX_len {r : RuleD} {w : List Int} {n : Nat} (h : w.length = 2 * n + 1) : (lostX r w).length = n := by
  unfold lostX
  split
  · rw [List.length_take]; omega
  · rw [List.length_drop]; omega
/-- What a context's rule is. -/
theorem ruleX_ok {m : MachD} (hm : machOk m = true) {q : Int} {xs : List Int} (h : isR (ruleX m q xs) = true) : 0 ≤ (ruleX m q xs).w ∧ (ruleX m q xs).w < m.sy ∧ ((ruleX m q xs).m = 1 ∨ (ruleX m q xs).m = -1) ∧ 0 ≤ (ruleX m q xs).n ∧ (ruleX m q xs).n < m.st := by
  obtain ⟨_, _, hall⟩ := machOk_five hm
  have hno := isR_ne h
  have hro : ruleOk m.sy m.st (ruleX m q xs) = true := by
    unfold ruleX at hno ⊢
    rw [List.getD_eq_getElem?_getD] at hno ⊢
    rcases e : m.rules[(q * m.sy + xs.getD (xs.length / 2) 0).toNat]? with _ | r
    · rw [e] at hno; exact absurd rfl hno
    · exact hall r (List.mem_of_getElem? e)
  simp only [ruleOk, hno, decide_false, Bool.false_or, Bool.and_eq_true, Bool.or_eq_true, beq_iff_eq, inB_iff] at hro
  exact ⟨hro.1.1.1, by omega, hro.1.2, hro.2.1, by omega⟩
set_option maxRecDepth 200000 in
set_option maxHeartbeats 8000000 in
theorem CheckContexts_c (rvm vp : Value) (m : MachD) (p : ProofD) (s : SetsD) (w : World) (hr : Rules w rvm m.rules) (hm : machOk m = true) (h : PrfL w vp p) (hp : prfOk p = true) (hs : setsB p = true) (h4 : 4 ≤ p.ns.length) (hS : setsP p = s)
    (hO : SetsOk s) (hI : SetsIn m.sy m.st s) (hk : chkX m s = true) (hlen : s.l.length ≤ 1000 ∧ s.r.length ≤ 1000 ∧ s.c.length ≤ 1000) :
    Calls Tryz.prog 8 #[.agg #[.int .i64 m.sy, .int .i64 m.st, rvm], vp] w fun e w' => e = .returned (.bool true) ∧ Ext w w' := by
  obtain ⟨Am, cm, rfl, _, _⟩ := id hr.form
  obtain ⟨nv, wv, rfl, hn, hw⟩ := id h
  obtain ⟨An, cn, rfl, _, _⟩ := id hn.form
  obtain ⟨Aw, cw, rfl, _, _⟩ := id hw.form
  obtain ⟨⟨s1, s2, s3, s4⟩, _, _⟩ := machOk_five hm
  have n1 := hO.n1
  have n4 := hO.n4
  have gl : GoodL s.n s.l := ⟨hO.l, fun x hx z hz => by have := hI.l x hx z hz; exact ⟨by omega, by omega⟩⟩
  have gr : GoodL s.n s.r := ⟨hO.r, fun x hx z hz => by have := hI.r x hx z hz; exact ⟨by omega, by omega⟩⟩
  have gc : GoodL (2 * s.n + 2) s.c := ⟨hO.c, fun x hx z hz => by
    have h1 := hI.c x hx
    cases x with
    | nil => cases hz
    | cons a t =>
      rcases List.mem_cons.1 hz with rfl | hz
      · have := h1.1; simp at this; exact ⟨by omega, by omega⟩
      · have := h1.2 z hz; exact ⟨by omega, by omega⟩⟩
  have hk' := hk
  simp only [chkX, Bool.and_eq_true, List.all_eq_true] at hk'
  obtain ⟨⟨kf, kz⟩, kc⟩ := hk'
  simp only [zerosX, Bool.and_eq_true] at kz
  obtain ⟨⟨kz1, kz2⟩, kz3⟩ := kz
  obtain ⟨W, hW⟩ : ∃ W, W = (w.alloc (.cells #[.int .i64 m.sy, .int .i64 m.st, .slice Am m.rules.length cm] 26)).alloc (.cells #[.int .i64 p.k, .slice An p.ns.length cn, .slice Aw p.ws.length cw] 34) := ⟨_, rfl⟩
  obtain ⟨g, hg⟩ : ∃ g, w.heap.size = g := ⟨_, rfl⟩
  have hX : Ext w W := by rw [hW]; exact (Ext.alloc _ _).trans (Ext.alloc _ _)
  have bM : Blk W g 26 #[.int .i64 m.sy, .int .i64 m.st, .slice Am m.rules.length cm] := by rw [hW]; exact (Blk.new _ _ _ _ hg).alloc _
  have bP : Blk W (g + 1) 34 #[.int .i64 p.k, .slice An p.ns.length cn, .slice Aw p.ws.length cw] := by rw [hW]; exact Blk.new _ _ _ _ (by simp [hg])
  have SO := setsOf_c _ p W (h.ext hX) hp hs h4
  rw [hS] at SO
  have VM := fun W' (h' : Ext W W') => ValidMachine_c (.agg #[.int .i64 m.sy, .int .i64 m.st, .slice Am m.rules.length cm]) m W' ⟨_, rfl, (hr.ext hX).ext h'⟩
  rw [hm] at VM
  have HG := Lib.hid (And.intro gl (And.intro gr (And.intro gc (And.intro kc (And.intro hI (And.intro hO (And.intro hm hlen)))))))
  have HZ := Lib.hid (And.intro kz1 (And.intro kz2 (And.intro kz3 kf)))
  have HH := Lib.hid (And.intro hX (And.intro bM (hr.ext hX)))
  have m0 := bM.cell 0
  have m1 := bM.cell 1
  have m2 := bM.cell 2
  have p0 := bP.cell 0
  have p1 := bP.cell 1
  have p2 := bP.cell 2
  simp only [List.getElem?_toArray, List.getElem?_cons_zero, List.getElem?_cons_succ] at m0 m1 m2 p0 p1 p2
  clear hX bM bP hr h hp hs h4 hS hO hI hlen gl gr gc kc kz1 kz2 kz3 kf hn hw hk
  obtain ⟨ln, hln⟩ : ∃ k, p.ns.length = k := ⟨_, rfl⟩
  obtain ⟨lw, hlw⟩ : ∃ k, p.ws.length = k := ⟨_, rfl⟩
  obtain ⟨lr, hlr⟩ : ∃ k, m.rules.length = k := ⟨_, rfl⟩
  rw [hln] at p1 SO
  rw [hlw] at p2 SO
  rw [hlr] at m2 VM
  have HLR := Lib.hid hlr
  rw [hln, hlw, hlr] at hW ⊢
  clear hln hlw hlr
  go_enter Tryz.func8, Tryz.ntmps8
  go_upto_region 1 with fail
  try rw [← hW]
  try rw [hg]
  clear hW hg
  go_wp2_with fail
  refine SO.mono ?_
  rintro e w2 ⟨⟨u, rfl, Al, cl, Ar, cr, Ac, cc, rfl, oL, oR, oC⟩, hx2⟩
  clear SO p0 p1 p2
  obtain ⟨V, hV⟩ : ∃ V, w2.alloc (.cells #[.int .i64 (s.n : Int), .slice Al s.l.length cl, .slice Ar s.r.length cr, .slice Ac s.c.length cc] 58) = V := ⟨_, rfl⟩
  obtain ⟨gs, hgs⟩ : ∃ q, w2.heap.size = q := ⟨_, rfl⟩
  have hxv : Ext w2 V := by rw [← hV]; exact Ext.alloc _ _
  have bV : Blk V gs 58 #[.int .i64 (s.n : Int), .slice Al s.l.length cl, .slice Ar s.r.length cr, .slice Ac s.c.length cc] := by rw [← hV]; exact Blk.new _ _ _ _ hgs
  have hWV := hx2.trans hxv
  have VM1 := VM V hWV
  have FT := fun W' (h' : Ext V W') => fits_c (.agg #[.int .i64 (s.n : Int), .slice Al s.l.length cl, .slice Ar s.r.length cr, .slice Ac s.c.length cc]) (.slice Am lr cm) s m W' ⟨_, _, _, rfl, (oL.lists.ext hxv).ext h', (oR.lists.ext hxv).ext h', (oC.lists.ext hxv).ext h'⟩ (by have := (HH.out.2.2.ext hWV).ext h'; rw [HLR.out] at this; exact this) HG.out.2.2.2.2.2.2.1 (fun x hx => by rw [HG.out.2.2.2.2.2.1.c x hx]; omega)
  rw [HZ.out.2.2.2] at FT
  have HV := Lib.hid (And.intro bV (And.intro (oL.lists.ext hxv) (And.intro (oR.lists.ext hxv) (And.intro (oC.lists.ext hxv) hWV))))
  clear bV hxv hx2 oL oR oC VM
  have m0 := hWV.cell m0
  have m1 := hWV.cell m1
  have m2 := hWV.cell m2
  have e0 := HV.out.1.cell 0
  have e1 := HV.out.1.cell 1
  have e2 := HV.out.1.cell 2
  have e3 := HV.out.1.cell 3
  simp only [List.getElem?_toArray, List.getElem?_cons_zero, List.getElem?_cons_succ] at e0 e1 e2 e3
  clear hWV
  go_upto_region 2 with fail
  try rw [hV]
  try rw [hgs]
  clear hV hgs
  go_wp2_with fail
  refine VM1.mono ?_
  rintro e w3 ⟨rfl, hx3⟩
  clear VM1
  have m0 := hx3.cell m0
  have m1 := hx3.cell m1
  have m2 := hx3.cell m2
  have e0 := hx3.cell e0
  have e1 := hx3.cell e1
  have e2 := hx3.cell e2
  have e3 := hx3.cell e3
  have FT := FT w3 hx3
  go_wp2_with fail
  refine FT.mono ?_
  rintro e w4 ⟨rfl, hx4⟩
  clear FT
  have m0 := hx4.cell m0
  have m1 := hx4.cell m1
  have m2 := hx4.cell m2
  have e0 := hx4.cell e0
  have e1 := hx4.cell e1
  have e2 := hx4.cell e2
  have e3 := hx4.cell e3
  have H4 := Lib.hid (hx3.trans hx4)
  clear hx3 hx4
  go_upto_region 4 with fail
  obtain ⟨k1, hk1⟩ : ∃ k, 2 * s.n = k := ⟨_, rfl⟩
  obtain ⟨k2, hk2⟩ : ∃ k, 2 * s.n + 2 = k := ⟨_, rfl⟩
  have hwm : IntKind.i64.wrap (2 * (s.n : Int)) = (k1 : Int) := by rw [show 2 * (s.n : Int) = (k1 : Int) by omega]; exact IntWalk.i64_in _ (by omega)
  have hwp : IntKind.i64.wrap ((k1 : Int) + 2) = (k2 : Int) := by rw [show (k1 : Int) + 2 = (k2 : Int) by omega]; exact IntWalk.i64_in _ (by omega)
  have GC : Hid (GoodL k2 s.c) := Lib.hid (by rw [← hk2]; exact HG.out.2.2.1)
  have HK2 := Lib.hid hk2
  have hk2l : k2 ≤ 10 := by omega
  have hk2p : 1 ≤ k2 := by omega
  have hnk : s.n ≤ k2 := by omega
  clear hk1 hk2
  refine wp_region_ordT 17 (readsT [0, 1, 2, 3, 5, 6, 7, 8, 10, 11, 12, 13, 14, 15] (.stir 4 (.stir 9 (.stir 16 .done)))) (by kernel_rfl) (by kernel_rfl) (fun _ _ _ _ _ h => h) ?_
  simp only [readsT]
  iterate 14 (refine wpOrdT_read (v := ?_) (by rfl) (Or.inl ⟨by rfl, fun x hx => ?_⟩) ?_; rotate_left; (· have hx' : Ext w4 x := (Ext.drew w4).trans hx; have e0 := hx'.cell e0; have e1 := hx'.cell e1; have e2 := hx'.cell e2; have e3 := hx'.cell e3; go_simp; try first | with_reducible rfl | (rw [hwm]; try with_reducible rfl) | (rw [hwp]; try with_reducible rfl)); try simp only [Act.put, List.setIfInBounds_toArray, List.set_cons_zero, List.set_cons_succ])
  have hxd : Ext w4 w4.drew := Ext.drew w4
  generalize w4.drew = w0 at *
  refine wpOrdT_keep (by rfl) (fun K hK => ?_)
  go_simp
  go_at_call 28
  with_reducible refine (setOf_c s.n (.slice Al s.l.length cl) s.l w0 ((HV.out.2.1.ext H4.out).ext hxd) (by have := HG.out.2.2.2.2.2.2.2; omega) (fun x hx => ⟨by rw [HG.out.1.len x hx]; omega, by rw [HG.out.1.len x hx]; omega, HG.out.1.small x hx⟩)).mono ?_
  rintro e v1 ⟨gl, ml, rfl, hSL, _, _, _, x1⟩
  refine hK _ _ x1 ?_
  clear hK K
  try simp only [Act.put, List.setIfInBounds_toArray, List.set_cons_zero, List.set_cons_succ]
  refine wpOrdT_keep (by rfl) (fun K hK => ?_)
  go_simp
  go_at_call 28
  with_reducible refine (setOf_c s.n (.slice Ar s.r.length cr) s.r v1 ((HV.out.2.2.1.ext H4.out).ext (hxd.trans x1)) (by have := HG.out.2.2.2.2.2.2.2; omega) (fun x hx => ⟨by rw [HG.out.2.1.len x hx]; omega, by rw [HG.out.2.1.len x hx]; omega, HG.out.2.1.small x hx⟩)).mono ?_
  rintro e v2 ⟨gr, mr, rfl, hSR, _, _, _, x2⟩
  refine hK _ _ (x1.trans x2) ?_
  clear hK K
  try simp only [Act.put, List.setIfInBounds_toArray, List.set_cons_zero, List.set_cons_succ]
  refine wpOrdT_keep (by rfl) (fun K hK => ?_)
  go_simp
  go_at_call 28
  with_reducible refine (setOf_c k2 (.slice Ac s.c.length cc) s.c v2 ((HV.out.2.2.2.1.ext H4.out).ext (hxd.trans (x1.trans x2))) (by have := HG.out.2.2.2.2.2.2.2; omega) (fun x hx => ⟨by rw [GC.out.len x hx]; omega, by rw [GC.out.len x hx]; omega, GC.out.small x hx⟩)).mono ?_
  rintro e v3 ⟨gc, mc, rfl, hSC, _, _, _, x3⟩
  refine hK _ _ ((x1.trans x2).trans x3) ?_
  clear hK K
  try simp only [Act.put, List.setIfInBounds_toArray, List.set_cons_zero, List.set_cons_succ]
  refine wpOrdT_done ?_
  try simp only [List.drop_succ_cons, List.drop_zero]
  have hx43 := hxd.trans ((x1.trans x2).trans x3)
  have HSS := Lib.hid (And.intro (hSL.ext (x2.trans x3)) (And.intro (hSR.ext x3) (And.intro hSC (H4.out.trans hx43))))
  have m0 := hx43.cell m0
  have m1 := hx43.cell m1
  have m2 := hx43.cell m2
  have e0 := hx43.cell e0
  have e3 := hx43.cell e3
  clear e1 e2 hx43 hxd x1 x2 x3 hSL hSR hSC
  obtain ⟨i0, hi, hz0, hz1, hz2⟩ := info_parts intInfo
  go_upto_region 5 with fail
  go_wp2_with (at_make; refine wpList_make_full _ rfl _ _ 27 rfl v3.heap.size 2 i0 _ 1 Tryz.underlying27 hi hz0 hz1 .i64 .i64 _ _ k2 rfl rfl ?d1 ?d2 ?c1 ?c2 ?c3 ?_)
  case d1 => rfl
  case d2 => rfl
  case c1 => rw [hz2]; omega
  case c2 => unfold maxLen; omega
  case c3 => exact Nat.le_refl _
  intro w5 hown hgr
  have hx5 : Ext v3 w5 := (Ext.refl _).grown hgr (by simp)
  rw [show (madeCells #[Value.int .i64 0] k2).toList = ivs (List.replicate k2 0) by rw [toList_madeCells_one]; simp [ivs]] at hown
  obtain ⟨gb, hgb⟩ : ∃ g, v3.heap.size = g := ⟨_, rfl⟩
  rw [hgb] at hown
  try rw [hgb]
  obtain ⟨zs, hzs⟩ : ∃ zs : List Int, List.replicate k2 0 = zs := ⟨_, rfl⟩
  rw [hzs] at hown
  have hzl : zs.length = k2 := by rw [← hzs, List.length_replicate]
  have hI5 : Ints w5 (.slice (some ⟨gb, 0, none⟩) zs.length k2) zs := by
    have h2 := hown
    rw [← hzl] at h2
    have h3 : OwnInts gb w5 (.slice (some ⟨gb, 0, none⟩) zs.length zs.length) zs := h2
    rw [hzl] at h3
    rw [hzl]
    exact ownsRow_row h3
  have hzt : zs.take s.n = List.replicate s.n 0 := by rw [← hzs, List.take_replicate]; congr 1; omega
  have hsz : ∀ z ∈ zs, smallQ z := fun z h => by rw [← hzs] at h; rw [(List.mem_replicate.1 h).2]; simp [smallQ]
  have hIt : Ints w5 (.slice (some ⟨gb, 0, none⟩) (zs.take s.n).length k2) (zs.take s.n) := by
    have := hI5.take s.n (by omega)
    rw [show (zs.take s.n).length = s.n by rw [List.length_take]; omega]
    exact this
  have htl : (zs.take s.n).length = s.n := by rw [List.length_take]; omega
  have ZL : anyT s.l (padI (zs.take s.n)) = true := by rw [hzt]; exact HZ.out.1
  have ZR : anyT s.r (padI (zs.take s.n)) = true := by rw [hzt]; exact HZ.out.2.1
  have ZC : anyT s.c (padI zs) = true := by rw [← hzs, ← HK2.out]; exact HZ.out.2.2.1
  have H1 := has_c gl ml _ s.n gb 0 k2 (anyT s.l) (zs.take s.n) w5 (HSS.out.1.ext hx5) hIt (by omega) (by omega) (fun z hz => hsz z (List.mem_of_mem_take hz))
  rw [htl, ZL] at H1
  have H2 := fun W (h : Ext w5 W) => has_c gr mr _ s.n gb 0 k2 (anyT s.r) (zs.take s.n) W ((HSS.out.2.1.ext hx5).ext h) (hIt.ext h) (by omega) (by omega) (fun z hz => hsz z (List.mem_of_mem_take hz))
  rw [htl, ZR] at H2
  have H3 := fun W (h : Ext w5 W) => has_c gc mc _ k2 gb 0 k2 (anyT s.c) zs W ((HSS.out.2.2.1.ext hx5).ext h) (hI5.ext h) (by omega) (by omega) hsz
  rw [hzl, ZC] at H3
  have m0 := hx5.cell m0
  have m1 := hx5.cell m1
  have m2 := hx5.cell m2
  have e0 := hx5.cell e0
  have e3 := hx5.cell e3
  have H5 := Lib.hid (HSS.out.2.2.2.trans hx5)
  have HX5 := Lib.hid hx5
  clear hown hgr hx5 hI5 hIt hzt hsz htl ZL ZR ZC hzl hzs hi hz0 hz1 hz2 hgb
  go_upto_region 6 with fail
  go_wp2_with fail
  refine H1.mono ?_
  rintro e w6 ⟨rfl, hx6⟩
  have H2 := H2 w6 hx6
  have e0 := hx6.cell e0
  clear H1
  go_wp2_with fail
  refine H2.mono ?_
  rintro e w7 ⟨rfl, hx7⟩
  have H3 := H3 w7 (hx6.trans hx7)
  clear H2
  go_wp2_with fail
  refine H3.mono ?_
  rintro e w8 ⟨rfl, hx8⟩
  clear H3 e0
  have hx58 := (hx6.trans hx7).trans hx8
  have m0 := hx58.cell m0
  have m1 := hx58.cell m1
  have m2 := hx58.cell m2
  have e3 := hx58.cell e3
  have H8 := Lib.hid (And.intro (H5.out.trans hx58) (And.intro (HSS.out.1.ext (HX5.out.trans hx58)) (And.intro (HSS.out.2.1.ext (HX5.out.trans hx58)) (HSS.out.2.2.1.ext (HX5.out.trans hx58)))))
  have LC : Lists w8 (.slice Ac s.c.length cc) s.c := HV.out.2.2.2.1.ext (H5.out.trans hx58)
  have HLC := Lib.hid LC
  clear hx6 hx7 hx8 hx58 LC
  go_upto_region 8 with fail
  have HS : Hid (∃ S : Nat, m.sy = (S : Int) ∧ S ≤ 6) := Lib.hid ⟨m.sy.toNat, by omega, by omega⟩
  go_wp2
  go_loopw [81] (fun i wr => ∃ k : Nat, k ≤ s.c.length ∧ i = .int .i64 (k : Int) ∧ Ext w8 wr) (fun i _ => s.c.length - (intOf i).toNat)
  case atStart => exact ⟨0, Nat.zero_le _, rfl, Ext.refl _⟩
  case round =>
    obtain ⟨k, hk, rfl, hx'⟩ := hrel
    by_cases hlt : k < s.c.length
    · have hd : decide ((k : Int) < (s.c.length : Int)) = true := decide_eq_true (by omega)
      have hc1 : (k : Int) < (s.c.length : Int) := by omega
      have hkl : s.c.length ≤ 1000 := HG.out.2.2.2.2.2.2.2.2.2
      have hwk : IntKind.i64.wrap ((k : Int) + 1) = ((k + 1 : Nat) : Int) := by rw [show (k : Int) + 1 = ((k + 1 : Nat) : Int) by omega]; exact IntWalk.i64_in _ (by omega)
      obtain ⟨b', off', uu, hAc, c0, iu, fu⟩ := Lists.at (HLC.out.ext hx') hlt
      subst hAc
      have hmem := List.getElem_mem hlt
      have hlen := HG.out.2.2.2.2.2.1.c _ hmem
      have hin := HG.out.2.2.2.2.1.c _ hmem
      have hok := HG.out.2.2.2.1 _ hmem
      have hsm := HG.out.2.2.1.small _ hmem
      obtain ⟨x, hxk⟩ : ∃ x, s.c[k] = x := ⟨_, rfl⟩
      rw [hxk] at iu hlen hin hok hsm
      obtain ⟨q, xs, rfl⟩ : ∃ a t, x = a :: t := by
        cases x with
        | nil => simp at hlen
        | cons a t => exact ⟨a, t, rfl⟩
      simp only [List.getD_cons_zero, List.drop_succ_cons, List.drop_zero] at hin
      have hxl : xs.length = 2 * s.n + 1 := by simp only [List.length_cons] at hlen; omega
      obtain ⟨bu, ou, cu, rfl⟩ := ints_at iu (by simp)
      obtain ⟨bb, oo, ee, hcell⟩ := iu.at (k := 0) (by simp)
      injection ee with ee
      injection ee with e1 e2
      subst e1 e2
      have q0 := hcell 0 (by simp)
      simp only [List.getElem_cons_zero, Nat.add_zero] at q0
      have hdrop := iu.drop 1 (by simp)
      have hcu : (q :: xs).length ≤ cu := by
        obtain ⟨_, _, e, h, _⟩ := iu.form
        (injection e with _ _ e3) <;> omega
      have hdrop2 : Ints wr (.slice (some ⟨bu, ou + 1, none⟩) xs.length (cu - 1)) xs := hdrop
      obtain ⟨nx, hnx⟩ : ∃ z, xs.length = z := ⟨_, rfl⟩
      have hql : (q :: xs).length = nx + 1 := by rw [List.length_cons, hnx]
      rw [hql] at c0 hcu
      have hcu1 : ¬ cu = 1 := by omega
      unfold ctxOk at hok
      simp only [List.getD_cons_zero, List.drop_succ_cons, List.drop_zero, Bool.and_eq_true] at hok
      obtain ⟨⟨hR, hT⟩, hF⟩ := hok
      have hRo := ruleX_ok HG.out.2.2.2.2.2.2.1 hR
      have LO := fun W (h : Ext wr W) => lost_c m (.slice Am lr cm) q bu (ou + 1) (cu - 1) s.n xs W (by have := (HH.out.2.2.ext (HV.out.2.2.2.2.trans H8.out.1)).ext (hx'.trans h); rw [HLR.out] at this; exact this) HG.out.2.2.2.2.2.2.1 hin.1 (hdrop2.ext h) hin.2 hxl (by omega) (by omega)
      obtain ⟨R, hR0⟩ : ∃ R, ruleX m q xs = R := ⟨_, rfl⟩
      rw [hR0] at LO hR hT hF hRo
      rw [hnx] at LO
      obtain ⟨Y, hY⟩ : ∃ Y, lostX R xs = Y := ⟨_, rfl⟩
      have hYl : Y.length = s.n := by rw [← hY]; exact lostX_len hxl
      have hYs : ∀ z ∈ Y, smallQ z := by rw [← hY]; exact lostX_small (fun z hz => hsm z (List.mem_cons_of_mem _ hz))
      rw [hY] at hT
      have HK := Lib.hid (And.intro hdrop2 (And.intro hxl (And.intro hT (And.intro hF (And.intro hRo (And.intro hYl (And.intro hYs (And.intro (fun z hz => hsm z (List.mem_cons_of_mem _ hz) : ∀ z ∈ xs, smallQ z) (And.intro hnx hY)))))))))
      have HR := Lib.hid hR
      have HX := Lib.hid hx'
      have m0 := hx'.cell m0
      have m1 := hx'.cell m1
      have m2 := hx'.cell m2
      clear hdrop hdrop2 hxl hT hF hRo hYl hYs hsm hnx hY hR hin hlen hmem iu fu hcell hxk hql hR0
      obtain ⟨rw_, rm, rn⟩ := R
      go_upto_region 11 with fail
      go_cut [13, 14, 15] (fun a b d wx => d = .bool true ∧ ∃ g3 bw ow cw2, a = .pointer (some ⟨g3, 0, none⟩) ∧ b = .slice (some ⟨bw, ow, none⟩) s.n cw2 ∧ Blk wx g3 65 #[.int .i64 rw_, .int .i64 rm, .int .i64 rn] ∧ Hid (Ints wx (.slice (some ⟨bw, ow, none⟩) Y.length cw2) Y) ∧ Hid (Ext wr wx))
      case first =>
        refine wp_region_ordT 14 (readsT [0, 1, 2, 3, 4, 5] (.fork 6 (readsT [7, 8, 9, 10] (.stir 11 (.stir 12 (readsT [13] .done)))) 11 (.stir 6 (readsT [7, 8, 9, 10] (.stir 12 (readsT [13] .done)))))) (by kernel_rfl) (by kernel_rfl) (fun _ _ _ _ _ h => h) ?_
        simp only [readsT]
        iterate 5 (refine wpOrdT_read (v := ?_) (by rfl) (Or.inl ⟨by rfl, fun x hx => ?_⟩) ?_; rotate_left; (· have hx' : Ext wr x := (Ext.drew wr).trans hx; have m0 := hx'.cell m0; have m1 := hx'.cell m1; have m2 := hx'.cell m2; have q0 := hx'.cell q0; go_simp; try with_reducible rfl); try simp only [Act.put, List.setIfInBounds_toArray, List.set_cons_zero, List.set_cons_succ])
        refine wpOrdT_read (v := .slice (some ⟨bu, ou + 1, none⟩) nx (cu - 1)) (by rfl) (Or.inl ⟨by rfl, fun x hx => ?_⟩) ?_
        · go_simp
          intro hh
          exfalso
          omega
        try simp only [Act.put, List.setIfInBounds_toArray, List.set_cons_zero, List.set_cons_succ]
        have hxd : Ext wr wr.drew := Ext.drew wr
        generalize wr.drew = w0 at *
        clear m0 m1 m2 q0 c0
        refine wpOrdT_forks (by rfl) (by rfl) (fun K hK => ?_) (fun K hK => ?_)
        · go_simp
          go_at_call 30
          with_reducible refine (LO w0 (hxd)).mono ?_
          rintro e v1 ⟨x1, u, rfl, hu, _⟩
          have ou := hu HR.out
          rw [HK.out.2.2.2.2.2.2.2.2.2] at ou
          rw [HR.out]
          obtain ⟨bw, ow, cw2, rfl⟩ := ints_at (ownsRow_row ou) (by have := HK.out.2.2.2.2.2.1; omega)
          have HIY := Lib.hid ou
          rw [HK.out.2.2.2.2.2.1]
          clear ou hu
          refine hK _ _ _ (fun _ hx => hx) x1 ?_
          clear hK K LO
          try simp only [Act.put, List.setIfInBounds_toArray, List.set_cons_zero, List.set_cons_succ]
          iterate 4 (refine wpOrdT_read (v := ?_) (by rfl) (Or.inl ⟨by rfl, fun x hx => ?_⟩) ?_; rotate_left; (· go_simp; try with_reducible rfl); try simp only [Act.put, List.setIfInBounds_toArray, List.set_cons_zero, List.set_cons_succ])
          refine wpOrdT_keep (by rfl) (fun K hK => ?_)
          go_simp
          obtain ⟨v2, h5⟩ : ∃ W, v1.alloc (.cells #[.int .i64 0, .int .i64 0, .int .i64 0] 65) = W := ⟨_, rfl⟩
          obtain ⟨g3, hg3⟩ : ∃ q, v1.heap.size = q := ⟨_, rfl⟩
          have x2 : Ext v1 v2 := by rw [← h5]; exact Ext.alloc _ _
          have b5 : Blk v2 g3 65 #[.int .i64 0, .int .i64 0, .int .i64 0] := by rw [← h5]; exact Blk.new _ _ _ _ hg3
          rw [h5]
          try rw [hg3]
          clear h5
          refine hK _ _ (x1.trans x2) ?_
          clear hK K
          try simp only [Act.put, List.setIfInBounds_toArray, List.set_cons_zero, List.set_cons_succ]
          have sz0 := hxd.size
          have sz1 := x1.size
          have hgl : w0.heap.size ≤ g3 := by omega
          have B5 := b5
          have z0 := B5.cell 0
          have z1 := B5.cell 1
          have z2 := B5.cell 2
          have f0 := B5.frozen 0
          have f1 := B5.frozen 1
          have f2 := B5.frozen 2
          simp only [List.getElem?_toArray, List.getElem?_cons_zero, List.getElem?_cons_succ] at z0 z1 z2
          have BF : Blk (((v2.setCell ⟨g3, 0, none⟩ (.int .i64 rw_)).setCell ⟨g3, 1, none⟩ (.int .i64 rm)).setCell ⟨g3, 2, none⟩ (.int .i64 rn)) g3 65 #[.int .i64 rw_, .int .i64 rm, .int .i64 rn] := by
            have := ((B5.set_ 0 (.int .i64 rw_)).set_ 1 (.int .i64 rm)).set_ 2 (.int .i64 rn)
            simpa using this
          have EW : Ext w0 (((v2.setCell ⟨g3, 0, none⟩ (.int .i64 rw_)).setCell ⟨g3, 1, none⟩ (.int .i64 rm)).setCell ⟨g3, 2, none⟩ (.int .i64 rn)) := (((x1.trans x2).setCell (p := ⟨g3, 0, none⟩) hgl _).setCell (p := ⟨g3, 1, none⟩) hgl _).setCell (p := ⟨g3, 2, none⟩) hgl _
          have IYF := Lib.hid ((by have o : OwnInts _ v2 _ Y := HIY.out.ext x2; exact ownsRow_row (ownsRow_far (ownsRow_far (ownsRow_far o (own_far_blk o B5 (by decide)) (.int .i64 rw_)) (own_far_blk o B5 (by decide)) (.int .i64 rm)) (own_far_blk o B5 (by decide)) (.int .i64 rn)) : Ints (((v2.setCell ⟨g3, 0, none⟩ (.int .i64 rw_)).setCell ⟨g3, 1, none⟩ (.int .i64 rm)).setCell ⟨g3, 2, none⟩ (.int .i64 rn)) (.slice (some ⟨bw, ow, none⟩) Y.length cw2) Y))
          have EWF := Lib.hid (hxd.trans EW)
          refine wpOrdT_keep (by rfl) (fun K hK => ?_)
          go_simp
          refine hK _ _ EW ?_
          clear hK K z0 z1 z2 f0 f1 f2
          try simp only [Act.put, List.setIfInBounds_toArray, List.set_cons_zero, List.set_cons_succ]
          refine wpOrdT_read (v := ?_) (by rfl) (Or.inl ⟨by rfl, fun x hx => ?_⟩) ?_; rotate_left
          · go_simp
            try with_reducible rfl
          try simp only [Act.put, List.setIfInBounds_toArray, List.set_cons_zero, List.set_cons_succ]
          refine wpOrdT_done ?_
          try simp only [List.drop_succ_cons, List.drop_zero]
          have HBF := Lib.hid BF
          clear BF B5 EW
          go_wp2
          go_meet
          exact ⟨rfl, g3, bw, ow, cw2, rfl, rfl, HBF.out, IYF, EWF⟩
        · go_simp
          obtain ⟨v1, h5⟩ : ∃ W, w0.alloc (.cells #[.int .i64 0, .int .i64 0, .int .i64 0] 65) = W := ⟨_, rfl⟩
          obtain ⟨g3, hg3⟩ : ∃ q, w0.heap.size = q := ⟨_, rfl⟩
          have x1 : Ext w0 v1 := by rw [← h5]; exact Ext.alloc _ _
          have b5 : Blk v1 g3 65 #[.int .i64 0, .int .i64 0, .int .i64 0] := by rw [← h5]; exact Blk.new _ _ _ _ hg3
          rw [h5]
          try rw [hg3]
          clear h5
          refine hK _ _ _ (fun _ hx => hx) x1 ?_
          clear hK K
          try simp only [Act.put, List.setIfInBounds_toArray, List.set_cons_zero, List.set_cons_succ]
          refine wpOrdT_keep (by rfl) (fun K hK => ?_)
          go_simp
          go_at_call 30
          with_reducible refine (LO v1 (hxd.trans x1)).mono ?_
          rintro e v2 ⟨x2, u, rfl, hu, _⟩
          have ou := hu HR.out
          rw [HK.out.2.2.2.2.2.2.2.2.2] at ou
          rw [HR.out]
          obtain ⟨bw, ow, cw2, rfl⟩ := ints_at (ownsRow_row ou) (by have := HK.out.2.2.2.2.2.1; omega)
          have HIY := Lib.hid ou
          rw [HK.out.2.2.2.2.2.1]
          clear ou hu
          refine hK _ _ (x1.trans x2) ?_
          clear hK K LO
          try simp only [Act.put, List.setIfInBounds_toArray, List.set_cons_zero, List.set_cons_succ]
          iterate 4 (refine wpOrdT_read (v := ?_) (by rfl) (Or.inl ⟨by rfl, fun x hx => ?_⟩) ?_; rotate_left; (· go_simp; try with_reducible rfl); try simp only [Act.put, List.setIfInBounds_toArray, List.set_cons_zero, List.set_cons_succ])
          have sz0 := hxd.size
          have hgl : w0.heap.size ≤ g3 := by omega
          have B5 := (b5.ext x2)
          have z0 := B5.cell 0
          have z1 := B5.cell 1
          have z2 := B5.cell 2
          have f0 := B5.frozen 0
          have f1 := B5.frozen 1
          have f2 := B5.frozen 2
          simp only [List.getElem?_toArray, List.getElem?_cons_zero, List.getElem?_cons_succ] at z0 z1 z2
          have BF : Blk (((v2.setCell ⟨g3, 0, none⟩ (.int .i64 rw_)).setCell ⟨g3, 1, none⟩ (.int .i64 rm)).setCell ⟨g3, 2, none⟩ (.int .i64 rn)) g3 65 #[.int .i64 rw_, .int .i64 rm, .int .i64 rn] := by
            have := ((B5.set_ 0 (.int .i64 rw_)).set_ 1 (.int .i64 rm)).set_ 2 (.int .i64 rn)
            simpa using this
          have EW : Ext w0 (((v2.setCell ⟨g3, 0, none⟩ (.int .i64 rw_)).setCell ⟨g3, 1, none⟩ (.int .i64 rm)).setCell ⟨g3, 2, none⟩ (.int .i64 rn)) := (((x1.trans x2).setCell (p := ⟨g3, 0, none⟩) hgl _).setCell (p := ⟨g3, 1, none⟩) hgl _).setCell (p := ⟨g3, 2, none⟩) hgl _
          have IYF := Lib.hid ((by have o : OwnInts _ v2 _ Y := HIY.out; exact ownsRow_row (ownsRow_far (ownsRow_far (ownsRow_far o (own_far_blk o B5 (by decide)) (.int .i64 rw_)) (own_far_blk o B5 (by decide)) (.int .i64 rm)) (own_far_blk o B5 (by decide)) (.int .i64 rn)) : Ints (((v2.setCell ⟨g3, 0, none⟩ (.int .i64 rw_)).setCell ⟨g3, 1, none⟩ (.int .i64 rm)).setCell ⟨g3, 2, none⟩ (.int .i64 rn)) (.slice (some ⟨bw, ow, none⟩) Y.length cw2) Y))
          have EWF := Lib.hid (hxd.trans EW)
          refine wpOrdT_keep (by rfl) (fun K hK => ?_)
          go_simp
          refine hK _ _ EW ?_
          clear hK K z0 z1 z2 f0 f1 f2
          try simp only [Act.put, List.setIfInBounds_toArray, List.set_cons_zero, List.set_cons_succ]
          refine wpOrdT_read (v := ?_) (by rfl) (Or.inl ⟨by rfl, fun x hx => ?_⟩) ?_; rotate_left
          · go_simp
            try with_reducible rfl
          try simp only [Act.put, List.setIfInBounds_toArray, List.set_cons_zero, List.set_cons_succ]
          refine wpOrdT_done ?_
          try simp only [List.drop_succ_cons, List.drop_zero]
          have HBF := Lib.hid BF
          clear BF B5 EW
          go_wp2
          go_meet
          exact ⟨rfl, g3, bw, ow, cw2, rfl, rfl, HBF.out, IYF, EWF⟩
      case rest =>
        obtain ⟨rfl, g3, bw, ow, cw2, rfl, rfl, b3, HIY, HXC⟩ := hcut
        have r0 := b3.cell 0
        have r1 := b3.cell 1
        have r2 := b3.cell 2
        simp only [List.getElem?_toArray, List.getElem?_cons_zero, List.getElem?_cons_succ] at r0 r1 r2
        have HB3 := Lib.hid b3
        clear LO m0 m1 m2 q0 c0 b3
        go_upto_region 12 with fail
        go_cut [119] (fun u wx => u = .bool false ∧ Ext wc wx)
        case first =>
          have hmm := HK.out.2.2.2.2.1.2.2.1
          simp only at hmm
          rcases hmm with h1 | h1
          · subst h1
            have H1 := has_c gl ml _ s.n bw ow cw2 (anyT s.l) Y wc (H8.out.2.1.ext (HX.out.trans HXC.out)) HIY.out (by have := HK.out.2.2.2.2.2.1; omega) (by have := HK.out.2.2.2.2.2.1; omega) HK.out.2.2.2.2.2.2.1
            have hTT : anyT s.l (padI Y) = true := by have := HK.out.2.2.1; simpa [inT] using this
            rw [hTT, HK.out.2.2.2.2.2.1] at H1
            clear hTT
            go_wp2_with fail
            refine H1.mono ?_
            rintro e w9 ⟨rfl, hx9⟩
            clear H1
            have r1 := hx9.cell r1
            go_wp2
            go_meet
            exact ⟨rfl, hx9⟩
          · subst h1
            have H1 := has_c gr mr _ s.n bw ow cw2 (anyT s.r) Y wc (H8.out.2.2.1.ext (HX.out.trans HXC.out)) HIY.out (by have := HK.out.2.2.2.2.2.1; omega) (by have := HK.out.2.2.2.2.2.1; omega) HK.out.2.2.2.2.2.2.1
            have hTT : anyT s.r (padI Y) = true := by have := HK.out.2.2.1; simpa [inT] using this
            rw [hTT, HK.out.2.2.2.2.2.1] at H1
            clear hTT
            go_wp2_with fail
            refine H1.mono ?_
            rintro e w9 ⟨rfl, hx9⟩
            clear H1
            have r1 := hx9.cell r1
            go_wp2
            go_meet
            exact ⟨rfl, hx9⟩
        case rest =>
          obtain ⟨rfl, hxc2⟩ := hcut
          rename_i wd _
          have hxd := HX.out.trans (HXC.out.trans hxc2)
          have b3 := HB3.out.ext hxc2
          have bM := (HH.out.2.1.ext (HV.out.2.2.2.2.trans H8.out.1)).ext hxd
          rw [HLR.out] at bM
          have m0 := bM.cell 0
          have m1 := bM.cell 1
          have m2 := bM.cell 2
          have r0 := b3.cell 0
          have r1 := b3.cell 1
          have r2 := b3.cell 2
          simp only [List.getElem?_toArray, List.getElem?_cons_zero, List.getElem?_cons_succ] at m0 m1 m2 r0 r1 r2
          have HXD := Lib.hid hxd
          obtain ⟨S, hS1, hS2⟩ := HS.out
          have FO := fun W (h : Ext wc W) => following_c S m.st Am lr cm ⟨rw_, rm, rn⟩ gl ml _ gr mr _ bu (ou + 1) (cu - 1) s.n (anyT s.l) (anyT s.r) xs W hS2 (H8.out.2.1.ext (HXD.out.trans h)) (H8.out.2.2.1.ext (HXD.out.trans h)) (by have := HK.out.1.ext ((HXC.out.trans hxc2).trans h); exact this) HK.out.2.1 n1 n4 HK.out.2.2.2.2.2.2.2.1
          have hFl := followX_len ⟨rw_, rm, rn⟩ xs s.n (anyT s.l) (anyT s.r) S
          have hFm : ∀ y ∈ followX ⟨rw_, rm, rn⟩ xs s.n (anyT s.l) (anyT s.r) S, y.length = 2 * s.n + 1 ∧ ∀ z ∈ y, smallQ z := fun y hy => by
            obtain ⟨kk, hk1, _, rfl⟩ := mem_followX.1 hy
            have hRo := HK.out.2.2.2.2.1
            simp only at hRo
            exact ⟨nextX_len HK.out.2.1 n1, nextX_small HK.out.2.2.2.2.2.2.2.1 (by omega) ⟨by simp only; omega, by simp only; omega⟩⟩
          have hFt : (followX ⟨rw_, rm, rn⟩ xs s.n (anyT s.l) (anyT s.r) S).all (fun y => inT s.c (rn :: y)) = true := by
            have := HK.out.2.2.2.1
            rw [show m.sy.toNat = S by omega] at this
            exact this
          obtain ⟨F, hF⟩ : ∃ F, followX ⟨rw_, rm, rn⟩ xs s.n (anyT s.l) (anyT s.r) S = F := ⟨_, rfl⟩
          rw [hF] at FO hFl hFm hFt
          rw [← hS1, HK.out.2.2.2.2.2.2.2.2.1] at FO
          dsimp only at FO
          clear hS1
          have HF := Lib.hid (And.intro hFl (And.intro hFm hFt))
          clear hFl hFm hFt hF b3 bM hxd
          go_upto_region 14 with fail
          refine wp_region_ordT 11 (readsT [0, 1, 2, 3, 4, 5, 6, 7, 8] (.stir 9 (.stir 10 .done))) (by kernel_rfl) (by kernel_rfl) (fun _ _ _ _ _ h => h) ?_
          simp only [readsT]
          iterate 6 (refine wpOrdT_read (v := ?_) (by rfl) (Or.inl ⟨by rfl, fun x hx => ?_⟩) ?_; rotate_left; (· have hx' : Ext wc x := (Ext.drew wc).trans hx; have m0 := hx'.cell m0; have m1 := hx'.cell m1; have m2 := hx'.cell m2; have r0 := hx'.cell r0; have r1 := hx'.cell r1; have r2 := hx'.cell r2; go_simp; try with_reducible rfl); try simp only [Act.put, List.setIfInBounds_toArray, List.set_cons_zero, List.set_cons_succ])
          refine wpOrdT_read (v := .slice (some ⟨bu, ou + 1, none⟩) nx (cu - 1)) (by rfl) (Or.inl ⟨by rfl, fun x hx => ?_⟩) ?_
          · go_simp
            intro hh
            exfalso
            omega
          try simp only [Act.put, List.setIfInBounds_toArray, List.set_cons_zero, List.set_cons_succ]
          iterate 2 (refine wpOrdT_read (v := ?_) (by rfl) (Or.inl ⟨by rfl, fun x hx => ?_⟩) ?_; rotate_left; (· go_simp; try with_reducible rfl); try simp only [Act.put, List.setIfInBounds_toArray, List.set_cons_zero, List.set_cons_succ])
          have hxd : Ext wc wc.drew := Ext.drew wc
          generalize wc.drew = w0 at *
          refine wpOrdT_keep (by rfl) (fun K hK => ?_)
          go_simp
          go_at_call 33
          with_reducible refine (FO w0 hxd).mono ?_
          rintro e v1 ⟨uF, rfl, oF, x1⟩
          obtain ⟨AF, cF, rfl⟩ := oF.form
          refine hK _ _ x1 ?_
          clear hK K FO m0 m1 m2 r0 r1 r2
          try simp only [Act.put, List.setIfInBounds_toArray, List.set_cons_zero, List.set_cons_succ]
          refine wpOrdT_keep (by rfl) (fun K hK => ?_)
          go_simp
          go_at_call 32
          with_reducible refine (statedAll_c rn (.slice AF F.length cF) F v1 oF.lists (by have := HF.out.1; omega) (fun y hy => by have := (HF.out.2.1 y hy).1; omega)).mono ?_
          rintro e v2 ⟨uG, rfl, oG, x2⟩
          obtain ⟨G, hG⟩ : ∃ G, (F.map fun x => rn :: x) = G := ⟨_, rfl⟩
          rw [hG] at oG
          obtain ⟨AG, cG, rfl⟩ := oG.form
          refine hK _ _ (x1.trans x2) ?_
          clear hK K
          try simp only [Act.put, List.setIfInBounds_toArray, List.set_cons_zero, List.set_cons_succ]
          refine wpOrdT_done ?_
          try simp only [List.drop_succ_cons, List.drop_zero]
          have hRo := HK.out.2.2.2.2.1
          simp only at hRo
          have CN := contains_c gc mc _ k2 (anyT s.c) (.slice AG G.length cG) G v2 (H8.out.2.2.2.ext (HXD.out.trans (hxd.trans (x1.trans x2)))) oG.lists (fun y hy => by
            rw [← hG] at hy
            obtain ⟨z, hz, rfl⟩ := List.mem_map.1 hy
            have h1 := HF.out.2.1 z hz
            refine ⟨by simp, by rw [List.length_cons]; omega, fun a ha => ?_⟩
            rcases List.mem_cons.1 ha with rfl | ha
            · exact ⟨by omega, by omega⟩
            · exact h1.2 a ha)
          have hall : (G.all fun x => anyT s.c (padI x)) = true := by
            rw [← hG, List.all_map]
            exact HF.out.2.2
          rw [hall] at CN
          have HFX := Lib.hid (HXD.out.trans (hxd.trans (x1.trans x2)))
          clear hRo oG oF x1 x2 hxd hG hall
          generalize G.length = nG at *
          go_wp2_with fail
          with_reducible refine CN.mono ?_
          rintro e v3 ⟨rfl, x3⟩
          clear CN
          go_wp2
          go_roundw
          case rel => exact ⟨k + 1, by omega, by go_num, HFX.out.trans x3⟩
          case measure => simp [intOf]; omega
    · have hd : decide ((k : Int) < (s.c.length : Int)) = false := decide_eq_false (by omega)
      have hc1 : ¬ (k : Int) < (s.c.length : Int) := by omega
      have HF := Lib.hid (HH.out.1.trans (HV.out.2.2.2.2.trans (H8.out.1.trans hx')))
      clear hx'
      go_wp2
      go_ret
      exact ⟨rfl, HF.out⟩
end Go.Proofs.YtapjofbjedpmgaaGreat
end
