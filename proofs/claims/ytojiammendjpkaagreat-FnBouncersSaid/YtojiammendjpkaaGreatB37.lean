/- Contract: the check of a bouncer's proof, where the proof is in order.
What a formula tape that is tried needs while it is built: two words that grow beside it.
A region that draws its order, walked along a line of its operations: as with OrdT, but one that follows upon all readers of memory may leave the class of worlds. No program stands here. -/
import Derived.Test.YtojiammendjpkaaGreatB36
import Derived.Test.YtojiammendjpkaaGreatB08
section
set_option linter.unusedSimpArgs false
set_option linter.unusedVariables false
namespace Go.Proofs.YtojiammendjpkaaGreat
open Go Go.RowKit Go.Proofs
set_option maxHeartbeats 400000
set_option maxRecDepth 20000 in
set_option maxHeartbeats 8000000 in
theorem CheckBouncer_c (m : MachD) (mv nv pv : Value) (n0 n : Nat) (f : FoD) (cs : List Int) (ws : List (List Int)) (w : World) (hr : Rules w mv m.rules) (hm : machOk m = true)
    (hn : Ints w nv ((n0 : Int) :: (n : Int) :: f.hd :: f.at_ :: cs)) (hw : Lists w pv ws) (hO : BncOk m n0 n f cs ws) :
    Calls Tryz.prog 19 #[.agg #[.int .i64 m.sy, .int .i64 m.st, mv], .agg #[.int .i64 6, nv, pv]] w fun e w' => e = .returned (.bool true) ∧ Ext w w' := by
  obtain ⟨Am, cm, rfl, _, _⟩ := hr.form
  obtain ⟨An, cn, rfl, _, _⟩ := hn.form
  obtain ⟨Ap, cp, rfl, _, _⟩ := hw.form
  obtain ⟨nl, hnl⟩ : ∃ k, ((n0 : Int) :: (n : Int) :: f.hd :: f.at_ :: cs).length = k := ⟨_, rfl⟩
  rw [hnl] at hn ⊢
  obtain ⟨W, hW⟩ : ∃ W, W = ((w.alloc (.cells #[.int .i64 m.sy, .int .i64 m.st, .slice Am m.rules.length cm] 26)).alloc (.cells #[.int .i64 6, .slice An nl cn, .slice Ap ws.length cp] 34)) := ⟨_, rfl⟩
  obtain ⟨bm, hbm⟩ : ∃ g, w.heap.size = g := ⟨_, rfl⟩
  have hX : Ext w W := by rw [hW]; exact (Ext.alloc _ _).trans (Ext.alloc _ _)
  have bM : Blk W bm 26 #[.int .i64 m.sy, .int .i64 m.st, .slice Am m.rules.length cm] := by rw [hW]; exact (Blk.new _ _ _ _ hbm).alloc _
  have bP : Blk W (bm + 1) 34 #[.int .i64 6, .slice An nl cn, .slice Ap ws.length cp] := by rw [hW]; exact Blk.new _ _ _ _ (by simp [hbm])
  have VM := ValidMachine_c (.agg #[.int .i64 m.sy, .int .i64 m.st, .slice Am m.rules.length cm]) m W ⟨_, rfl, hr.ext hX⟩
  rw [hm] at VM
  have m0 := bM.cell 0
  have m1 := bM.cell 1
  have m2 := bM.cell 2
  have p0 := bP.cell 0
  have p1 := bP.cell 1
  have p2 := bP.cell 2
  simp only [List.getElem?_toArray, List.getElem?_cons_zero, List.getElem?_cons_succ] at m0 m1 m2 p0 p1 p2
  have HB := Lib.hid (And.intro bM bP)
  have HX := Lib.hid hX
  have HR := Lib.hid (And.intro hr (And.intro hm (And.intro hn (And.intro hw (And.intro hO hnl)))))
  have HBM := Lib.hid hbm
  clear bM bP hX hr hm hn hw hO hnl
  go_enter Tryz.func19, Tryz.ntmps19
  go_wp2_with fail
  try rw [← hW]
  try rw [hbm]
  clear hW hbm
  refine VM.mono ?_
  rintro e w1 ⟨rfl, hx1⟩
  replace m0 := hx1.cell m0
  replace m1 := hx1.cell m1
  replace m2 := hx1.cell m2
  replace p0 := hx1.cell p0
  replace p1 := hx1.cell p1
  replace p2 := hx1.cell p2
  have VP := ValidProof_c (.agg #[.int .i64 6, .slice An nl cn, .slice Ap ws.length cp]) ⟨6, (n0 : Int) :: (n : Int) :: f.hd :: f.at_ :: cs, ws⟩ w1 ⟨_, _, rfl, HR.out.2.2.1.ext (HX.out.trans hx1), (HR.out.2.2.2.1.ext (HX.out.trans hx1)).rows⟩
  rw [HR.out.2.2.2.2.1.prf] at VP
  clear VM
  go_wp2_with fail
  refine VP.mono ?_
  rintro e w2 ⟨rfl, hx2⟩
  replace m0 := hx2.cell m0
  replace m1 := hx2.cell m1
  replace m2 := hx2.cell m2
  replace p0 := hx2.cell p0
  replace p1 := hx2.cell p1
  replace p2 := hx2.cell p2
  have hE2 : Ext w w2 := (HX.out.trans hx1).trans hx2
  have O := HR.out.2.2.2.2.1
  have BO := bounceOf_c m (.slice Am m.rules.length cm) (.slice An nl cn) (.slice Ap ws.length cp) n0 (n : Int) f cs ws w2 (HR.out.1.ext hE2) HR.out.2.1 (HR.out.2.2.1.ext hE2) (HR.out.2.2.2.1.ext hE2) O.hws O.hrs O.hwl (fun x hx => by have := O.hwz x hx; omega) O.hos O.hN O.hE O.hq O.hok O.hat
  have HX2 := Lib.hid (And.intro (hx1.trans hx2) hE2)
  clear VP hx1 hx2 hE2 O
  go_wp2_with fail
  refine BO.mono ?_
  rintro e w3 ⟨hx3, wv, rv, ov, cv, lv, qv, rfl, oW, oR, oO, oc, ol, oq⟩
  have HL := Lib.hid (And.intro oW (And.intro oR (And.intro oO (And.intro oc (And.intro ol (And.intro oq hx3))))))
  obtain ⟨a1, c1, rfl, _, _⟩ := oW.lists.form
  obtain ⟨a2, c2, rfl, _, _⟩ := oR.lists.form
  obtain ⟨a3, c3, rfl, _, _⟩ := oO.ints.form
  obtain ⟨a4, c4, rfl, _, _⟩ := oc.form
  obtain ⟨a5, c5, rfl, _, _⟩ := ol.form
  obtain ⟨a6, c6, rfl, _, _⟩ := oq.form
  replace m0 := hx3.cell m0
  replace m1 := hx3.cell m1
  replace m2 := hx3.cell m2
  clear BO oW oR oO oc ol oq hx3 p0 p1 p2
  obtain ⟨V, hV⟩ : ∃ V, V = (w3.alloc (.cells #[.int .i64 (n : Int), .int .i64 f.q, .int .i64 f.hd, .int .i64 f.at_, .slice a1 f.ws.length c1, .slice a2 f.rs.length c2, .slice a3 f.os.length c3, .slice a4 cs.length c4, .int .i64 (cfgI m blankC n0).q, .slice a5 (cfgI m blankC n0).l.length c5, .slice a6 (cfgI m blankC n0).r.length c6] 115)).alloc (.cells #[.bool false] 4) := ⟨_, rfl⟩
  obtain ⟨gb, hgb⟩ : ∃ g, w3.heap.size = g := ⟨_, rfl⟩
  have hx4 : Ext w3 V := by rw [hV]; exact (Ext.alloc _ _).trans (Ext.alloc _ _)
  have bB : Blk V gb 115 #[.int .i64 (n : Int), .int .i64 f.q, .int .i64 f.hd, .int .i64 f.at_, .slice a1 f.ws.length c1, .slice a2 f.rs.length c2, .slice a3 f.os.length c3, .slice a4 cs.length c4, .int .i64 (cfgI m blankC n0).q, .slice a5 (cfgI m blankC n0).l.length c5, .slice a6 (cfgI m blankC n0).r.length c6] := by rw [hV]; exact (Blk.new _ _ _ _ hgb).alloc _
  have bV : Blk V (gb + 1) 4 #[.bool false] := by rw [hV]; exact Blk.new _ _ _ _ (by simp [hgb])
  have b0 := bB.cell 0
  have b1 := bB.cell 1
  have b2 := bB.cell 2
  have b3 := bB.cell 3
  have b4 := bB.cell 4
  have b5 := bB.cell 5
  have b6 := bB.cell 6
  have b7 := bB.cell 7
  have b8 := bB.cell 8
  have b9 := bB.cell 9
  have b10 := bB.cell 10
  simp only [List.getElem?_toArray, List.getElem?_cons_zero, List.getElem?_cons_succ] at b0 b1 b2 b3 b4 b5 b6 b7 b8 b9 b10
  replace m0 := hx4.cell m0
  replace m1 := hx4.cell m1
  replace m2 := hx4.cell m2
  have O := HR.out.2.2.2.2.1
  have hE3 : Ext w w3 := HX2.out.2.trans HL.out.2.2.2.2.2.2
  have hrl := O.rl
  obtain ⟨lf, hlf⟩ := O.first
  have AC := accepted1_c m (.slice Am m.rules.length cm) _ _ _ (.slice a4 cs.length c4) _ _ (n : Int) f cs (cfgI m blankC n0) w3 V ⟨rfl, HL.out.1.lists, HL.out.2.1.lists, HL.out.2.2.1.ints, HL.out.2.2.1.flat⟩ HL.out.2.2.2.1 HL.out.2.2.2.2.1 HL.out.2.2.2.2.2.1 (HR.out.1.ext hE3) HR.out.2.1 O.hok (by omega)
    (fun o ho => by rw [O.hos] at ho; rw [List.eq_of_mem_replicate ho]; exact Int.le_refl _) (fun z hz => by rw [O.hcs z hz]; omega) hx4
    #[.pointer (some ⟨gb + 1, 0, none⟩), .pointer (some ⟨gb, 0, none⟩)] (gb + 1) 4 (fun l => .bool (l.any fun k => ((k : Nat) : Int) == (n : Int))) (fun k => decide (((k : Nat) : Int) < (n : Int))) (by omega) bV
    (fun pre k W hg hb hk => (visit1_c (gb + 1) gb (n : Int) k _ W hb (by
      have : gb < V.heap.size := bB.lt
      exact (World.cell?_of_block (hg.block gb this (fun e => by injection e with e; omega))).trans b0) (by omega)).mono fun e W' h => ⟨h.1, h.2.1, by
        have h3 := h.2.2
        simp only [List.any_append, List.any_cons, List.any_nil, Bool.or_false]
        exact h3⟩)
  have hval : accV (fun k => decide (((k : Nat) : Int) < (n : Int))) m f cs (cfgI m blankC n0) = [n] := by
    unfold accV
    rw [if_pos O.st, hlf]
    unfold runV
    rw [if_neg (by simp)]
  rw [hval] at AC
  have HX4 := Lib.hid (And.intro hx4 hE3)
  have HGB := Lib.hid hgb
  clear O hE3 hrl hlf hval hx4 bB bV
  go_upto_region 7 with fail
  try rw [← hV]
  try rw [hgb]
  clear hV hgb
  go_wp2_with fail
  refine AC.mono ?_
  rintro e w5 ⟨rfl, hg5, hb5⟩
  have c5 := hb5.cell 0
  simp only [List.getElem?_toArray, List.getElem?_cons_zero] at c5
  have hbt : ([n].any fun k => ((k : Nat) : Int) == (n : Int)) = true := by simp
  rw [hbt] at c5
  have HG5 := Lib.hid hg5
  clear AC hg5 hb5 hbt b0 b1 b2 b3 b4 b5 b6 b7 b8 b9 b10 m0 m1 m2
  go_wp2
  go_ret
  exact ⟨rfl, ((HX4.out.2.trans HX4.out.1).grown HG5.out (fun k hk => by injection hk with hk; subst hk; have := HGB.out; have := HX4.out.2.size; show w.heap.size ≤ gb + 1; omega))⟩
end Go.Proofs.YtojiammendjpkaaGreat
end
section
set_option linter.unusedSimpArgs false
set_option linter.unusedVariables false
namespace Go.Proofs.YtojiammendjpkaaGreat
open Go Go.RowKit Go.Proofs
set_option maxHeartbeats 400000
/-- An append of numbers, with the block where what comes out lies. -/
theorem wpList_append_intsA {w : World} {ops : Array Oper} {rest : List Oper} {o : Oper} {a : Act} {Q : Exit → Act → World → Prop} (hgd : o.guard = none) (s x : Operand)
    (ho : o.op = .call { callee := .builtin .append, args := #[s, x], argTypes := #[27, 27] }) (base : Nat)
    (v u : Value) (xs news : List Int) (hs : a.eval s = v) (hx : a.eval x = u) (hown : OwnInts base w v xs) (hu : Ints w u news) (hf : Flat u) (hl : xs.length + news.length ≤ 4194304) (hbase : base ≤ w.heap.size)
    (h : ∀ v' w', OwnInts base w' v' (xs ++ news) → w.grownBy w' v.ownBlock → (v'.ownBlock = v.ownBlock ∨ v'.ownBlock = some w.heap.size) → wpList Tryz.prog ops Q rest (a.put o.dst v') w') : wpList Tryz.prog ops Q (o :: rest) a w := by
  obtain ⟨i0, hi, hz0, hz1, hz2⟩ := info_parts intInfo
  obtain ⟨A, c, rfl, _, _⟩ := id hu.form
  rcases hf with hf | ⟨b, off, n, c', hf⟩
  · injection hf with e1 e2 e3
    subst e1 e3
    have hz : news = [] := List.length_eq_zero_iff.1 e2
    subst hz
    refine wpList_append_own_none hgd s x _ ho base 2 i0 1 Tryz.underlying27 hi v xs.length (ivs xs) hs hown hx ?_
    exact h _ _ (by simpa using hown) (grownBy_refl _ _) (.inl rfl)
  · injection hf with e1 e2 e3
    subst e1 e3
    have hc : ∀ j y, (ivs news)[j]? = some y → w.cell? ((⟨b, off, none⟩ : Addr).add j) = some y := by
      intro j y hj
      obtain ⟨hl, _⟩ := List.getElem?_eq_some_iff.1 hj
      rw [ivs_length] at hl
      obtain ⟨b', off', e', hc⟩ := hu.at hl
      cases e'
      have := ints_cells hc j y hj
      by_cases hj0 : j = 0
      · subst hj0
        simpa [Addr.add] using this
      · simpa [Addr.add, hj0] using this
    refine wpList_append_own_at w hgd s x _ ho base 2 i0 (.int .i64 0) 1 8 Tryz.underlying27 hi hz0 hz1 hz2 rfl (by decide) v xs.length (ivs xs) hs hown ⟨b, off, none⟩ news.length c (ivs news) hx (by simp) hc (ivs_one news) (by unfold maxLen; omega) (by omega) hbase ?_
    intro v' w' h1 h2 _ h4
    exact h v' w' (by unfold OwnInts; rw [ivs_append, List.length_append]; exact h1) h2 h4
structure BdAt (bm gF gO : Nat) (m : MachD) (mv : Value) (base n : Nat) (q : Int) (E O : List (List Int)) (v1 v2 wv rv : Value) (vs us : List Value) (W : World) : Prop where
  dr : FoDr bm gF m mv base ⟨q, 0, 0, E, O, []⟩ wv rv (.slice none 0 0) vs us W
  o1 : ∃ L, OwnInts base W v1 L ∧ L.length ≤ n
  o2 : ∃ L, OwnInts base W v2 L ∧ L.length ≤ n
  a12 : AptF v1 v2
  a1 : ∀ v ∈ vs ++ us, AptF v1 v
  a2 : ∀ v ∈ vs ++ us, AptF v2 v
  out : Blk W gO 49 #[.int .i64 0, .int .i64 0, .int .i64 0, .slice none 0 0, .slice none 0 0, .slice none 0 0]
section
variable {bm gF gO : Nat} {m : MachD} {mv : Value} {base n n' : Nat} {q : Int} {E O : List (List Int)} {v1 v2 wv rv : Value} {vs us : List Value} {W W' : World}
theorem BdAt.ext (h : BdAt bm gF gO m mv base n q E O v1 v2 wv rv vs us W) (he : Ext W W') : BdAt bm gF gO m mv base n q E O v1 v2 wv rv vs us W' :=
  ⟨h.dr.ext he, by obtain ⟨L, a, b⟩ := h.o1; exact ⟨L, ownsRow_ext a he, b⟩, by obtain ⟨L, a, b⟩ := h.o2; exact ⟨L, ownsRow_ext a he, b⟩, h.a12, h.a1, h.a2, h.out.ext he⟩
/-- The formula tape stays where a word apart from its lists grows. -/
theorem FoDr.keptI {f : FoD} {v : Value} {L : List Int} (h : FoDr bm gF m mv base f wv rv (.slice none 0 0) vs us W) (ho : OwnInts base W v L) (ha : ∀ u ∈ vs ++ us, AptF v u) (hg : W.grownBy W' v.ownBlock) : FoDr bm gF m mv base f wv rv (.slice none 0 0) vs us W' :=
  ⟨Blk.apart h.mac ho (by decide) hg, Blk.apart h.blk ho (by decide) hg, World.ownsRow.kept h.ow hg (own_ne h.ow ho (by decide)), World.ownsRow.kept h.or hg (own_ne h.or ho (by decide)), World.ownsRow.kept h.oo hg (.inl rfl),
   fun i hi => by obtain ⟨u, a, b⟩ := h.iw i hi; exact ⟨u, a, World.ownsRow.kept b hg (ha u (List.mem_append_left _ (List.mem_of_getElem? a))).symm.ne⟩,
   fun i hi => by obtain ⟨u, a, b⟩ := h.ir i hi; exact ⟨u, a, World.ownsRow.kept b hg (ha u (List.mem_append_right _ (List.mem_of_getElem? a))).symm.ne⟩, h.pw, h.nr, h.new⟩
/-- The lists' blocks are there. -/
theorem FoDr.ltU {f : FoD} {ov : Value} (h : FoDr bm gF m mv base f wv rv ov vs us W) : ∀ v ∈ vs ++ us, ∀ g, v.ownBlock = some g → g < W.heap.size := fun v hv => h.lt v (List.mem_cons_of_mem _ hv)
theorem apt_new {v v' u : Value} {s : Nat} (ha : AptF v u) (hl : v'.ownBlock = v.ownBlock ∨ v'.ownBlock = some s) (hu : ∀ g, u.ownBlock = some g → g < s) : AptF v' u := fun g h1 h2 => by
  rcases hl with e | e
  · exact ha g (by rw [← e]; exact h1) h2
  · rw [e] at h1
    injection h1 with h1
    have := hu g h2
    omega
/-- The first word has grown. -/
theorem BdAt.once (h : BdAt bm gF gO m mv base n q E O v1 v2 wv rv vs us W) {v' : Value} {L : List Int} (ho : ∃ L0, OwnInts base W v1 L0) (hL : OwnInts base W' v' L) (hl : L.length ≤ n') (hn : n ≤ n') (hg : W.grownBy W' v1.ownBlock)
    (hc : v'.ownBlock = v1.ownBlock ∨ v'.ownBlock = some W.heap.size) : BdAt bm gF gO m mv base n' q E O v' v2 wv rv vs us W' := by
  obtain ⟨L0, h0⟩ := ho
  obtain ⟨L2, h2, h3⟩ := h.o2
  exact ⟨h.dr.keptI h0 h.a1 hg, ⟨L, hL, hl⟩, ⟨L2, World.ownsRow.kept h2 hg h.a12.symm.ne, by omega⟩, apt_new h.a12 hc (fun g hg => (h2.lt g hg).2), fun v hv => apt_new (h.a1 v hv) hc (h.dr.ltU v hv), h.a2, Blk.apart h.out h0 (by decide) hg⟩
/-- The second word has grown. -/
theorem BdAt.twice (h : BdAt bm gF gO m mv base n q E O v1 v2 wv rv vs us W) {v' : Value} {L : List Int} (ho : ∃ L0, OwnInts base W v2 L0) (hL : OwnInts base W' v' L) (hl : L.length ≤ n') (hn : n ≤ n') (hg : W.grownBy W' v2.ownBlock)
    (hc : v'.ownBlock = v2.ownBlock ∨ v'.ownBlock = some W.heap.size) : BdAt bm gF gO m mv base n' q E O v1 v' wv rv vs us W' := by
  obtain ⟨L0, h0⟩ := ho
  obtain ⟨L1, h1, h3⟩ := h.o1
  exact ⟨h.dr.keptI h0 h.a2 hg, ⟨L1, World.ownsRow.kept h1 hg h.a12.ne, by omega⟩, ⟨L, hL, hl⟩, (apt_new h.a12.symm hc (fun g hg => (h1.lt g hg).2)).symm, h.a1, fun v hv => apt_new (h.a2 v hv) hc (h.dr.ltU v hv), Blk.apart h.out h0 (by decide) hg⟩
theorem OwnInts.sel {v : Value} {L : List Int} {g : Nat} {t : TypeId} {cs : Array Value} {rw_ : Value} {k : Nat} {ys : List Value} (h : OwnInts base W v L) (hr : W.ownsRow base 27 1 rw_ k ys) (hg : W.grownBy W' rw_.ownBlock) (hb : Blk W' g t cs) (ht : t ≠ 2) (i : Nat) (x : Value) : OwnInts base (W'.setCell ⟨g, i, none⟩ x) v L :=
  far_blkF (World.ownsRow.kept h hg (own_ne h hr (by decide))) hb ht i x
/-- A wall is laid. -/
theorem BdAt.putW (h : BdAt bm gF gO m mv base n q E O v1 v2 wv rv vs us W) {wv' u : Value} {x : List Int} (hu : OwnInts base W u x) (hn : ∀ v ∈ (.slice none 0 0 : Value) :: (vs ++ us), AptF v u) (h1 : AptF v1 u) (h2 : AptF v2 u)
    (ho : W'.ownsRow base 27 1 wv' (E.length + 1) (vs ++ [u])) (hg : W.grownBy W' wv.ownBlock) (hr : AptF wv' rv) (hmg : bm ≠ gF) (hog : gO ≠ gF) :
    BdAt bm gF gO m mv base n q (E ++ [x]) O v1 v2 wv' rv (vs ++ [u]) us (W'.setCell ⟨gF, 3, none⟩ wv') := by
  obtain ⟨L1, p1, l1⟩ := h.o1
  obtain ⟨L2, p2, l2⟩ := h.o2
  have bF := Blk.apart h.dr.blk h.dr.ow (by decide) hg
  refine ⟨h.dr.putW hu hn ho hg hr hmg, ⟨L1, p1.sel h.dr.ow hg bF (by decide) _ _, l1⟩, ⟨L2, p2.sel h.dr.ow hg bF (by decide) _ _, l2⟩, h.a12, fun v hv => ?_, fun v hv => ?_, (Blk.apart h.out h.dr.ow (by decide) hg).far (p := ⟨gF, 3, none⟩) hog _⟩
  · rcases List.mem_append.1 hv with hv | hv
    · rcases List.mem_append.1 hv with hv | hv
      · exact h.a1 v (List.mem_append_left _ hv)
      · rw [List.mem_singleton.1 hv]; exact h1
    · exact h.a1 v (List.mem_append_right _ hv)
  · rcases List.mem_append.1 hv with hv | hv
    · rcases List.mem_append.1 hv with hv | hv
      · exact h.a2 v (List.mem_append_left _ hv)
      · rw [List.mem_singleton.1 hv]; exact h2
    · exact h.a2 v (List.mem_append_right _ hv)
/-- A repeater is laid. -/
theorem BdAt.putR (h : BdAt bm gF gO m mv base n q E O v1 v2 wv rv vs us W) {rv' u : Value} {x : List Int} (hu : OwnInts base W u x) (hn : ∀ v ∈ (.slice none 0 0 : Value) :: (vs ++ us), AptF v u) (h1 : AptF v1 u) (h2 : AptF v2 u)
    (ho : W'.ownsRow base 27 1 rv' (O.length + 1) (us ++ [u])) (hg : W.grownBy W' rv.ownBlock) (hr : AptF wv rv') (hmg : bm ≠ gF) (hog : gO ≠ gF) :
    BdAt bm gF gO m mv base n q E (O ++ [x]) v1 v2 wv rv' vs (us ++ [u]) (W'.setCell ⟨gF, 4, none⟩ rv') := by
  obtain ⟨L1, p1, l1⟩ := h.o1
  obtain ⟨L2, p2, l2⟩ := h.o2
  have bF := Blk.apart h.dr.blk h.dr.or (by decide) hg
  refine ⟨h.dr.putR hu hn ho hg hr hmg, ⟨L1, p1.sel h.dr.or hg bF (by decide) _ _, l1⟩, ⟨L2, p2.sel h.dr.or hg bF (by decide) _ _, l2⟩, h.a12, fun v hv => ?_, fun v hv => ?_, (Blk.apart h.out h.dr.or (by decide) hg).far (p := ⟨gF, 4, none⟩) hog _⟩
  · rcases List.mem_append.1 hv with hv | hv
    · exact h.a1 v (List.mem_append_left _ hv)
    · rcases List.mem_append.1 hv with hv | hv
      · exact h.a1 v (List.mem_append_right _ hv)
      · rw [List.mem_singleton.1 hv]; exact h1
  · rcases List.mem_append.1 hv with hv | hv
    · exact h.a2 v (List.mem_append_left _ hv)
    · rcases List.mem_append.1 hv with hv | hv
      · exact h.a2 v (List.mem_append_right _ hv)
      · rw [List.mem_singleton.1 hv]; exact h2
end
end Go.Proofs.YtojiammendjpkaaGreat
end
section
namespace Go.Proofs.YtojiammendjpkaaGreat
open Go
section
variable {P : Program} {ops : Array Oper} {md : Region.Mode} {Q : Exit → Act → World → Prop}
/-- What an operation waits for, and what that waits for. -/
def closU (md : Region.Mode) (ops : Array Oper) : Nat → Nat → List Nat
  | 0, _ => []
  | f + 1, j => match ops[j]? with
    | none => []
    | some o => (o.after.toList.filter fun e => Region.binds md e).flatMap fun e => e.on :: closU md ops f e.on
theorem closU_listed {n : Nat} {listed : Array Bool} (inv : HeadInv md ops n listed) : ∀ (f j : Nat), (∀ o, ops[j]? = some o → ∀ e ∈ o.after, Region.binds md e = true → listed.getD e.on false = true) → ∀ i ∈ closU md ops f j, listed.getD i false = true := by
  intro f
  induction f with
  | zero => intro j _ i hi; cases hi
  | succ f ih =>
    intro j hj i hi
    unfold closU at hi
    cases ho : ops[j]? with
    | none => rw [ho] at hi; cases hi
    | some o =>
      rw [ho] at hi
      simp only [List.mem_flatMap, List.mem_filter] at hi
      obtain ⟨e, ⟨he, hb⟩, hi⟩ := hi
      have hl := hj o ho e (by simpa using he) hb
      rcases List.mem_cons.1 hi with rfl | hi
      · exact hl
      · exact ih e.on (fun o' ho' e' he' hb' => inv.closed e.on o' ho' hl e' he' hb') i hi
def wpAnyU (P : Program) (md : Region.Mode) (ops : Array Oper) (Q : Exit → Act → World → Prop) (n : Nat) (lv : List Nat) (L : Array Bool → Act → World → Prop) : Nat → (World → Prop) → Array Bool → Act → World → Prop
  | 0, _, listed, a, w => L listed a w
  | f + 1, S, listed, a, w => Region.ready md ops listed ≠ [] ∧ ∀ i ∈ Region.ready md ops listed, i < n ∧
      wpOp P ops Q i (fun a' w' => ∃ S' : World → Prop, (i ∈ lv ∨ ∀ x, S' x → S x) ∧ S' w' ∧ wpAnyU P md ops Q n lv L f S' (listed.setIfInBounds i true) a' w') a w
theorem wpAny_of_U {n g : Nat} {lv : List Nat} {L : Array Bool → Act → World → Prop} (hL : ∀ listed a w, L listed a w → wpAny P md ops Q g listed a w) :
    ∀ (f : Nat) (S : World → Prop) (listed : Array Bool) (a : Act) (w : World), wpAnyU P md ops Q n lv L f S listed a w → wpAny P md ops Q (f + g) listed a w
  | 0, _, listed, a, w, h => by rw [Nat.zero_add]; exact hL _ _ _ h
  | f + 1, S, listed, a, w, h => by
    rw [show f + 1 + g = (f + g) + 1 by omega]
    exact ⟨fun h0 => absurd h0 h.1, fun i hi => wpOp_mono (fun a' w' ⟨S', _, _, h'⟩ => wpAny_of_U hL f S' _ a' w' h') (h.2 i hi).2⟩
/-- A reading operation that may come up may be taken first: one that reads memory where all that leave the class wait for it. -/
theorem wpAnyU_first {n i : Nat} {lv : List Nat} {R : World → Prop} {oi : Oper} {v : Value} {L : Array Bool → Act → World → Prop} (hi : ops[i]? = some oi) (hsel : ∀ (j : Nat) (o : Oper) cs b, ops[j]? = some o → o.op ≠ .select cs b)
    (hQ : ∀ c t t' d w, Q (.panic c) ⟨t, d⟩ w → Q (.panic c) ⟨t', d⟩ w)
    (hs : Region.sinkB md ops n = true) (hc : Region.chainB md ops n = true) (hn : n < ops.size) (hin : i < n)
    (hdone : ∀ listed a w, L listed a w → ∀ j ∈ Region.ready md ops listed, n ≤ j) (hlv : (∀ x, R x) ∨ ∀ j ∈ lv, i ∈ closU md ops n j) :
    ∀ (f : Nat) (S : World → Prop) (listed : Array Bool) (a : Act) (w : World), HeadInv md ops n listed →
      (∀ j oj, ops[j]? = some oj → j ≠ i → listed.getD j true = false → (∀ e ∈ oj.after, Region.binds md e = true → e.on ≠ i) → oi.apart ops oj = true) →
      i ∈ Region.ready md ops listed → YieldsIf P ops R oi v a → (∀ x, S x → R x) → S w →
      wpAnyU P md ops Q n lv L f S (listed.setIfInBounds i true) (a.put oi.dst v) w → wpAnyU P md ops Q n lv L (f + 1) S listed a w := by
  intro f
  induction f with
  | zero =>
    intro S listed a w inv _ hr hy hSR hS H
    have hun := (mem_ready.1 hr).1
    refine ⟨fun h => (by rw [h] at hr; cases hr), fun j hj => ?_⟩
    have hjn : j < n := by
      rcases Nat.lt_or_ge j n with h | h
      · exact h
      · exact absurd hj (tail_waits hs hc hn inv _ i rfl hin hun j h)
    refine ⟨hjn, ?_⟩
    by_cases hji : j = i
    · subst hji; exact hy.wpOp hi (hSR w hS) ⟨S, .inr fun _ h => h, hS, H⟩
    · have := hdone _ _ _ H j (ready_mono hj hji)
      omega
  | succ f ih =>
    intro S listed a w inv hfree hr hy hSR hS H
    have hun := (mem_ready.1 hr).1
    refine ⟨fun h => (by rw [h] at hr; cases hr), fun j hj => ?_⟩
    have hjn : j < n := by
      rcases Nat.lt_or_ge j n with h | h
      · exact h
      · exact absurd hj (tail_waits hs hc hn inv _ i rfl hin hun j h)
    refine ⟨hjn, ?_⟩
    by_cases hji : j = i
    · subst hji; exact hy.wpOp hi (hSR w hS) ⟨S, .inr fun _ h => h, hS, H⟩
    · have h1 := (H.2 j (ready_mono hj hji)).2
      obtain ⟨hjun, oj, hoj, hall⟩ := mem_ready.1 hj
      have hnot : ∀ e ∈ oj.after, Region.binds md e = true → e.on ≠ i := fun e he hb heq => by
        have h1 := hall e he hb
        rw [heq, getD_both hun] at h1
        cases h1
      have h2 := wpOp_putIf hoj (hfree j oj hoj hji hjun hnot) (fun cs b => hsel i oi cs b hi) (fun cs b => hsel j oj cs b hoj) (fun c a w h => by cases hd : oi.dst with
          | none => rw [hd] at h; exact h
          | some d => rw [hd] at h; exact hQ c _ _ _ w h) hy h1
      have hfree' : ∀ k ok, ops[k]? = some ok → k ≠ i → (listed.setIfInBounds j true).getD k true = false →
          (∀ e ∈ ok.after, Region.binds md e = true → e.on ≠ i) → oi.apart ops ok = true := fun k ok hk hki hun hno => by
        refine hfree k ok hk hki ?_ hno
        by_cases hjk : j = k
        · subst hjk; exact hjun
        · rw [_root_.Go.getD_set_ne true hjk] at hun; exact hun
      refine wpOp_mono (fun a' w' h3 => ?_) h2
      obtain ⟨hy', S', hsub, hS', hN⟩ := h3
      have hR' : ∀ x, S' x → R x := by
        rcases hsub with hsub | hsub
        · rcases hlv with hlv | hlv
          · exact fun x _ => hlv x
          · have := closU_listed inv n j (fun o ho e he hb => by rw [hoj] at ho; injection ho with ho; subst ho; exact hall e he hb) i (hlv j hsub)
            rw [getD_both hun] at this
            cases this
        · exact fun x hx => hSR x (hsub x hx)
      refine ⟨S', hsub, hS', ih S' (listed.setIfInBounds j true) a' w' (inv.set hj hjn) hfree' (ready_mono hr (Ne.symm hji)) hy' hR' hS' ?_⟩
      rw [Array.setIfInBounds_comm _ _ hji]
      exact hN
inductive OrdU where
  | done
  | read (i : Nat) (t : OrdU)
  | pure (i : Nat) (t : OrdU)
  | stir (i : Nat) (t : OrdU)
  | leave (i : Nat) (t : OrdU)
def readsU : List Nat → OrdU → OrdU
  | [], t => t
  | i :: is, t => .read i (readsU is t)
def wpOrdU (P : Program) (ops : Array Oper) (Q : Exit → Act → World → Prop) (l : List Oper) (L : Act → World → Prop) : OrdU → (World → Prop) → Act → World → Prop
  | .done, _, a, w => L a w
  | .read i t, S, a, w => ∃ o, nthO l i = some o ∧ ∃ v, YieldsIf P ops S o v a ∧ wpOrdU P ops Q l L t S (a.put o.dst v) w
  | .pure i t, S, a, w => ∃ o, nthO l i = some o ∧ ∃ v, YieldsIf P ops (fun _ => True) o v a ∧ wpOrdU P ops Q l L t S (a.put o.dst v) w
  | .stir i t, S, a, w => ∃ o, nthO l i = some o ∧ stirT P ops Q (wpOrdU P ops Q l L t) o S a w
  | .leave i t, _, a, w => ∃ o, nthO l i = some o ∧ ∀ K : Act → World → Prop, (∀ (S' : World → Prop) a' w', S' w' → wpOrdU P ops Q l L t S' a' w' → K a' w') →
      if Region.wanted o (yielded ops a.tmps) = true then Oper.wp P o a w K Q else K (a.put o.dst undef) w
def ordUB (md : Region.Mode) (ops : Array Oper) (n g : Nat) (lv : List Nat) : Nat → OrdU → Array Bool → Bool
  | 0, .done, listed => Region.seqB md ops g n listed
  | f + 1, .read i t, listed => decide (i < n) && (Region.ready md ops listed).contains i && Region.free md ops listed i && (lv.all fun j => (closU md ops n j).contains i) && ordUB md ops n g lv f t (listed.setIfInBounds i true)
  | f + 1, .pure i t, listed => decide (i < n) && (Region.ready md ops listed).contains i && Region.free md ops listed i && ordUB md ops n g lv f t (listed.setIfInBounds i true)
  | f + 1, .stir i t, listed => decide (i < n) && (Region.ready md ops listed == [i]) && ordUB md ops n g lv f t (listed.setIfInBounds i true)
  | f + 1, .leave i t, listed => decide (i < n) && (Region.ready md ops listed == [i]) && lv.contains i && ordUB md ops n g lv f t (listed.setIfInBounds i true)
  | _, _, _ => false
theorem wpAnyU_ordU {n g : Nat} {lv : List Nat} {Lq : Act → World → Prop} {l : List Oper} (hl : ops = l.toArray) (hsel : Region.noSelect ops = true) (hQ : ∀ c t t' d w, Q (.panic c) ⟨t, d⟩ w → Q (.panic c) ⟨t', d⟩ w) (hs : Region.sinkB md ops n = true) (hc : Region.chainB md ops n = true) (hn : n < ops.size) :
    ∀ (f : Nat) (tr : OrdU) (S : World → Prop) (listed : Array Bool) (a : Act) (w : World), HeadInv md ops n listed → ordUB md ops n g lv f tr listed = true → S w → wpOrdU P ops Q l Lq tr S a w →
    wpAnyU P md ops Q n lv (fun listed' a' w' => Region.seqB md ops g n listed' = true ∧ Lq a' w') f S listed a w := by
  have hnth : ∀ i o, nthO l i = some o → ops[i]? = some o := fun i o h => by rw [nthO_eq] at h; rw [hl]; simpa using h
  intro f
  induction f with
  | zero =>
    intro tr S listed a w inv hB hS h
    cases tr with
    | done => exact ⟨hB, h⟩
    | read i t => simp [ordUB] at hB
    | pure i t => simp [ordUB] at hB
    | stir i t => simp [ordUB] at hB
    | leave i t => simp [ordUB] at hB
  | succ f ih =>
    intro tr S listed a w inv hB hS h
    cases tr with
    | done => simp [ordUB] at hB
    | read i t =>
      simp only [ordUB, Bool.and_eq_true, decide_eq_true_eq] at hB
      obtain ⟨⟨⟨⟨hin, hr⟩, hf⟩, hcl⟩, hB'⟩ := hB
      obtain ⟨o, ho, v, hy, hK⟩ := h
      have hi := hnth i o ho
      have hr' : i ∈ Region.ready md ops listed := by simpa using hr
      have hcl' : ∀ j ∈ lv, i ∈ closU md ops n j := fun j hj => by simpa using List.all_eq_true.1 hcl j hj
      exact wpAnyU_first hi (Region.noSelect_spec hsel) hQ hs hc hn hin (fun listed' a' w' hL => seqB_ready hL.1) (.inr hcl') f S listed a w inv (Region.free_spec hi hf) hr' hy (fun _ h => h) hS
        (ih t S _ _ w (inv.set hr' hin) hB' hS hK)
    | pure i t =>
      simp only [ordUB, Bool.and_eq_true, decide_eq_true_eq] at hB
      obtain ⟨⟨⟨hin, hr⟩, hf⟩, hB'⟩ := hB
      obtain ⟨o, ho, v, hy, hK⟩ := h
      have hi := hnth i o ho
      have hr' : i ∈ Region.ready md ops listed := by simpa using hr
      exact wpAnyU_first (R := fun _ => True) hi (Region.noSelect_spec hsel) hQ hs hc hn hin (fun listed' a' w' hL => seqB_ready hL.1) (.inl fun _ => trivial) f S listed a w inv (Region.free_spec hi hf) hr' hy (fun _ _ => trivial) hS
        (ih t S _ _ w (inv.set hr' hin) hB' hS hK)
    | stir i t =>
      simp only [ordUB, Bool.and_eq_true, decide_eq_true_eq] at hB
      obtain ⟨⟨hin, hr⟩, hB'⟩ := hB
      obtain ⟨o, ho, hK⟩ := h
      have hr : Region.ready md ops listed = [i] := by simpa using hr
      refine ⟨by rw [hr]; simp, fun j hj => ?_⟩
      have hji : j = i := by rw [hr] at hj; simpa using hj
      subst hji
      refine ⟨hin, wpOp_step (hnth j o ho) fun K' hK' => hK K' fun S' a' w' hsub hS' hW => hK' a' w' ⟨S', .inr hsub, hS', ih t S' _ a' w' (inv.set hj hin) hB' hS' hW⟩⟩
    | leave i t =>
      simp only [ordUB, Bool.and_eq_true, decide_eq_true_eq] at hB
      obtain ⟨⟨⟨hin, hr⟩, hlv⟩, hB'⟩ := hB
      obtain ⟨o, ho, hK⟩ := h
      have hr : Region.ready md ops listed = [i] := by simpa using hr
      have hlv' : i ∈ lv := by simpa using hlv
      refine ⟨by rw [hr]; simp, fun j hj => ?_⟩
      have hji : j = i := by rw [hr] at hj; simpa using hj
      subst hji
      refine ⟨hin, wpOp_step (hnth j o ho) fun K' hK' => hK K' fun S' a' w' hS' hW => hK' a' w' ⟨S', .inl hlv', hS', ih t S' _ a' w' (inv.set hj hin) hB' hS' hW⟩⟩
def ordTreeUB (md : Region.Mode) (ops : Array Oper) (n : Nat) (lv : List Nat) (tr : OrdU) : Bool :=
  Region.noSelect ops && decide (n < ops.size) && Region.sinkB md ops n && Region.chainB md ops n && ordUB md ops n (ops.size - n) lv n tr (Array.replicate ops.size false)
theorem wp_region_ordU {id : Nat} {a : Act} {w : World} {l : List Oper} (S : World → Prop) (n : Nat) (lv : List Nat) (tr : OrdU) (hm : P.follows .mixedOrders = true) (hB : ordTreeUB .any l.toArray n lv tr = true)
    (hQ : ∀ c t t' d w, Q (.panic c) ⟨t, d⟩ w → Q (.panic c) ⟨t', d⟩ w)
    (hS : S w.drew) (h : wpOrdU P l.toArray Q l (fun a' w' => wpList P l.toArray Q (l.drop n) a' w') tr S a w.drew) : (Code.region id l.toArray true).wp P Q a w := by
  simp only [ordTreeUB, Bool.and_eq_true, decide_eq_true_eq] at hB
  obtain ⟨⟨⟨⟨hsel, hn⟩, hs⟩, hc⟩, hord⟩ := hB
  have hn' : n < l.length := by simpa using hn
  have hdl : (l.drop n).length = l.toArray.size - n := by simp
  have inv0 : HeadInv .any l.toArray n (Array.replicate l.toArray.size false) :=
    ⟨by simp, fun j oj _ hl => (by rw [getD_replicate_false] at hl; cases hl), fun t _ ht => _root_.Go.getD_in (by simpa using ht) (getD_replicate_false _ _)⟩
  have H := wpAnyU_ordU (md := .any) (g := l.toArray.size - n) (Lq := fun a' w' => wpList P l.toArray Q (l.drop n) a' w') rfl hsel hQ hs hc hn n tr S _ a w.drew inv0 hord hS h
  refine wp_region_any hm ?_
  have := wpAny_of_U (Q := Q) (g := l.toArray.size - n) (fun listed a' w' hL => by
    have := wpAny_of_seq (md := .any) (Q' := Q) (l.drop n) n listed a' w' (fun j => by simp [List.getElem?_drop]) (by rw [hdl]; exact hL.1) hL.2
    rwa [hdl] at this) _ _ _ _ _ H
  rw [show n + (l.toArray.size - n) = l.toArray.size by simp; omega] at this
  exact this
theorem wpOrdU_read {l : List Oper} {L : Act → World → Prop} {i : Nat} {t : OrdU} {o : Oper} {S : World → Prop} {a : Act} {w : World} {v : Value} (ho : nthO l i = some o) (hy : YieldsIf P ops S o v a) (h : wpOrdU P ops Q l L t S (a.put o.dst v) w) : wpOrdU P ops Q l L (.read i t) S a w := ⟨o, ho, v, hy, h⟩
theorem wpOrdU_pure {l : List Oper} {L : Act → World → Prop} {i : Nat} {t : OrdU} {o : Oper} {S : World → Prop} {a : Act} {w : World} {v : Value} (ho : nthO l i = some o) (hy : YieldsIf P ops (fun _ => True) o v a) (h : wpOrdU P ops Q l L t S (a.put o.dst v) w) : wpOrdU P ops Q l L (.pure i t) S a w := ⟨o, ho, v, hy, h⟩
theorem wpOrdU_stir {l : List Oper} {L : Act → World → Prop} {i : Nat} {t : OrdU} {o : Oper} {w : World} {a : Act} (ho : nthO l i = some o)
    (h : ∀ K : Act → World → Prop, (∀ a' w', Ext w w' → wpOrdU P ops Q l L t (Ext w') a' w' → K a' w') → if Region.wanted o (yielded ops a.tmps) = true then Oper.wp P o a w K Q else K (a.put o.dst undef) w) : wpOrdU P ops Q l L (.stir i t) (Ext w) a w :=
  ⟨o, ho, stirT_ext h⟩
theorem wpOrdU_leave {l : List Oper} {L : Act → World → Prop} {i : Nat} {t : OrdU} {o : Oper} {S : World → Prop} {w : World} {a : Act} (ho : nthO l i = some o)
    (h : ∀ K : Act → World → Prop, (∀ a' w', wpOrdU P ops Q l L t (fun _ => True) a' w' → K a' w') → if Region.wanted o (yielded ops a.tmps) = true then Oper.wp P o a w K Q else K (a.put o.dst undef) w) : wpOrdU P ops Q l L (.leave i t) S a w :=
  ⟨o, ho, fun K hK => h K fun a' w' hW => hK (fun _ => True) a' w' trivial hW⟩
theorem wpOrdU_done {l : List Oper} {L : Act → World → Prop} {S : World → Prop} {a : Act} {w : World} (h : L a w) : wpOrdU P ops Q l L .done S a w := h
end
end Go.Proofs.YtojiammendjpkaaGreat
end
