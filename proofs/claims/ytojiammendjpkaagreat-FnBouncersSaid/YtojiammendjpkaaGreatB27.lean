/- Contract: the reference's drawing of a formula tape.
Contract: a formula tape for a machine with counts.
Contracts: growth between two valid formula tapes; a run of a formula tape. -/
import Derived.Test.YtojiammendjpkaaGreatB22
import Derived.Test.YtojiammendjpkaaGreatB26
section
set_option linter.unusedSimpArgs false
set_option linter.unusedVariables false
namespace Go.Proofs.YtojiammendjpkaaGreat
open Go Go.RowKit Go.Proofs
set_option maxHeartbeats 400000
/-- What is drawn lies in memory. -/
structure FoFin (B b gF gO n : Nat) (m : MachD) (w : World) (f : FoD) (wv rv ov : Value) (cs : Array Value) (W : World) : Prop where
  blk : Blk W gF 49 #[.int .i64 f.q, .int .i64 f.hd, .int .i64 f.at_, wv, rv, ov]
  ws : OwnLists w.heap.size W wv f.ws
  rs : OwnLists w.heap.size W rv f.rs
  os : OwnInts w.heap.size W ov f.os
  ok : foOk m f = true
  wl : ∀ x ∈ f.ws, x.length ≤ 4
  rl : ∀ x ∈ f.rs, x.length ≤ 3
  ol : ∀ o ∈ f.os, -2 ≤ o ∧ o ≤ 2
  src : Src B W b (n + 5000)
  out : Blk W gO 49 cs
  grown : w.grownBy W (some b)
theorem OwnLists.far {w : World} {base g : Nat} {v : Value} {xss : List (List Int)} {t : TypeId} {cs : Array Value} (h : OwnLists base w v xss) (hb : Blk w g t cs) (h1 : t ≠ 27) (h2 : t ≠ 2) (i : Nat) (x : Value) : OwnLists base (w.setCell ⟨g, i, none⟩ x) v xss := by
  obtain ⟨vs, a, b⟩ := h
  exact ⟨vs, far_blkF a hb h1 i x, fun i hi => by obtain ⟨u, c, d⟩ := b i hi; exact ⟨u, c, far_blkF d hb h2 _ x⟩⟩
theorem FoFin.setO {B b gF gO n : Nat} {m : MachD} {w : World} {f : FoD} {wv rv ov : Value} {cs : Array Value} {W : World} (h : FoFin B b gF gO n m w f wv rv ov cs W) (h1 : gO ≠ gF) (h2 : w.heap.size ≤ gO) (h3 : B ≤ gO) (h4 : gO ≠ b) (i : Nat) (x : Value) :
    FoFin B b gF gO n m w f wv rv ov (cs.setIfInBounds i x) (W.setCell ⟨gO, i, none⟩ x) :=
  ⟨h.blk.far (p := ⟨gO, i, none⟩) (fun e => h1 e.symm) _, h.ws.far h.out (by decide) (by decide) i x, h.rs.far h.out (by decide) (by decide) i x, far_blkF h.os h.out (by decide) i x, h.ok, h.wl, h.rl, h.ol,
    h.src.kept (grownBy_setCell W ⟨gO, i, none⟩ x) (fun k hk => by injection hk with hk; subst hk; exact ⟨h3, h4⟩), h.out.set_ i x,
    grownBy_step h.grown (grownBy_setCell W ⟨gO, i, none⟩ x) (fun k hk => .inl (by injection hk with hk; subst hk; exact h2))⟩
/-- The same behind another symbol on a wall. -/
theorem FoGd.wall {m : MachD} {f : FoD} (h : FoGd m f) {k : Nat} {x : List Int} (hx : x.length ≤ 4) (hz : ∀ z ∈ x, 0 ≤ z ∧ z < 2) (hy : 2 ≤ m.sy) (a : Int) : FoGd m ⟨f.q, f.hd, a, f.ws.set k x, f.rs, f.os⟩ := by
  refine ⟨h.q, h.rn, by have := h.ws; simpa using this, h.os, fun y hy' => ?_, h.rl, h.ol, h.hd⟩
  rcases List.mem_or_eq_of_mem_set hy' with c | c
  · exact h.wl y c
  · subst c
    exact ⟨by omega, fun z hz' => by have := hz z hz'; omega⟩
end Go.Proofs.YtojiammendjpkaaGreat
end
section
set_option linter.unusedSimpArgs false
set_option linter.unusedVariables false
namespace Go.Proofs.YtojiammendjpkaaGreat
open Go Go.RowKit Go.Proofs
set_option maxHeartbeats 400000
theorem OwnLists.src {B : Nat} {w w' : World} {b n : Nat} (h : Src B w b n) (hg : w.grownBy w' (some b)) {base : Nat} {v : Value} {xss : List (List Int)} (ho : OwnLists base w v xss) : OwnLists base w' v xss := by
  obtain ⟨vs, a, c⟩ := ho
  exact ⟨vs, own_src h hg a (by decide), fun i hi => by obtain ⟨u, x, y⟩ := c i hi; exact ⟨u, x, own_src h hg y (by decide)⟩⟩
/-- Six cells of another block are written. -/
theorem far_blk6 {w : World} {base : Nat} {e : TypeId} {size n : Nat} {v : Value} {xs : List Value} {g : Nat} {t : TypeId} {cs : Array Value} (h : w.ownsRow base e size v n xs) (hb : Blk w g t cs) (hne : t ≠ e) (x0 x1 x2 x3 x4 x5 : Value) :
    ((((((w.setCell ⟨g, 0, none⟩ x0).setCell ⟨g, 1, none⟩ x1).setCell ⟨g, 2, none⟩ x2).setCell ⟨g, 3, none⟩ x3).setCell ⟨g, 4, none⟩ x4).setCell ⟨g, 5, none⟩ x5).ownsRow base e size v n xs :=
  far_blkF (far_blkF (far_blkF (far_blkF (far_blkF (far_blkF h hb hne 0 x0) (hb.set_ 0 x0) hne 1 x1) ((hb.set_ 0 x0).set_ 1 x1) hne 2 x2) (((hb.set_ 0 x0).set_ 1 x1).set_ 2 x2) hne 3 x3) ((((hb.set_ 0 x0).set_ 1 x1).set_ 2 x2).set_ 3 x3) hne 4 x4) (((((hb.set_ 0 x0).set_ 1 x1).set_ 2 x2).set_ 3 x3).set_ 4 x4) hne 5 x5
theorem OwnLists.far6 {w : World} {base : Nat} {v : Value} {xss : List (List Int)} {g : Nat} {t : TypeId} {cs : Array Value} (h : OwnLists base w v xss) (hb : Blk w g t cs) (h1 : t ≠ 27) (h2 : t ≠ 2) (x0 x1 x2 x3 x4 x5 : Value) :
    OwnLists base ((((((w.setCell ⟨g, 0, none⟩ x0).setCell ⟨g, 1, none⟩ x1).setCell ⟨g, 2, none⟩ x2).setCell ⟨g, 3, none⟩ x3).setCell ⟨g, 4, none⟩ x4).setCell ⟨g, 5, none⟩ x5) v xss := by
  obtain ⟨vs, a, c⟩ := h
  exact ⟨vs, far_blk6 a hb h1 _ _ _ _ _ _, fun i hi => by obtain ⟨u, x, y⟩ := c i hi; exact ⟨u, x, far_blk6 y hb h2 _ _ _ _ _ _⟩⟩
theorem ext_set6 {w w' : World} (h : Ext w w') {g : Nat} (hg : w.heap.size ≤ g) (x0 x1 x2 x3 x4 x5 : Value) :
    Ext w ((((((w'.setCell ⟨g, 0, none⟩ x0).setCell ⟨g, 1, none⟩ x1).setCell ⟨g, 2, none⟩ x2).setCell ⟨g, 3, none⟩ x3).setCell ⟨g, 4, none⟩ x4).setCell ⟨g, 5, none⟩ x5) := by
  have s : ∀ {W : World} (i : Nat) (x : Value), Ext w W → Ext w (W.setCell ⟨g, i, none⟩ x) := fun {W} i x hW => hW.grown (grownBy_setCell W ⟨g, i, none⟩ x) (fun q hq => by injection hq with hq; subst hq; exact hg)
  exact s 5 x5 (s 4 x4 (s 3 x3 (s 2 x2 (s 1 x1 (s 0 x0 h)))))
end Go.Proofs.YtojiammendjpkaaGreat
end
section
set_option linter.unusedSimpArgs false
set_option linter.unusedVariables false
namespace Go.Proofs.YtojiammendjpkaaGreat
open Go Go.RowKit Go.Proofs
set_option maxHeartbeats 400000
set_option maxRecDepth 20000 in
set_option maxHeartbeats 8000000 in
theorem GrowthOfG_c (m : MachD) (mv wv rv ov wv2 rv2 ov2 : Value) (f g : FoD) (w : World) (h : FoV w (.agg #[.int .i64 f.q, .int .i64 f.hd, .int .i64 f.at_, wv, rv, ov]) f wv rv ov) (h' : FoV w (.agg #[.int .i64 g.q, .int .i64 g.hd, .int .i64 g.at_, wv2, rv2, ov2]) g wv2 rv2 ov2) (hf : foOk m f = true) (hg : foOk m g = true) (hm : machOk m = true) (hrm : Rules w mv m.rules) :
    Calls Tryz.prog 22 #[.agg #[.int .i64 m.sy, .int .i64 m.st, mv], .agg #[.int .i64 f.q, .int .i64 f.hd, .int .i64 f.at_, wv, rv, ov], .agg #[.int .i64 g.q, .int .i64 g.hd, .int .i64 g.at_, wv2, rv2, ov2]] w (GrwRes m f g w) := by
  have hnb' := foOk_nb hg
  have hnb := foOk_nb hf
  obtain ⟨V, hV⟩ : ∃ V, V = ((w.alloc (.cells #[.int .i64 m.sy, .int .i64 m.st, mv] 26)).alloc (.cells #[.int .i64 f.q, .int .i64 f.hd, .int .i64 f.at_, wv, rv, ov] 49)).alloc (.cells #[.int .i64 g.q, .int .i64 g.hd, .int .i64 g.at_, wv2, rv2, ov2] 49) := ⟨_, rfl⟩
  have hX : Ext w V := by rw [hV]; exact ((Ext.alloc _ _).trans (Ext.alloc _ _)).trans (Ext.alloc _ _)
  obtain ⟨gg, hgg⟩ : ∃ g, w.heap.size = g := ⟨_, rfl⟩
  have bm : Blk V gg 26 #[.int .i64 m.sy, .int .i64 m.st, mv] := by rw [hV]; exact ((Blk.new _ _ _ _ hgg).alloc _).alloc _
  have bf : Blk V (gg + 1) 49 #[.int .i64 f.q, .int .i64 f.hd, .int .i64 f.at_, wv, rv, ov] := by rw [hV]; exact (Blk.new _ _ _ _ (by simp [hgg])).alloc _
  have bh : Blk V (gg + 1 + 1) 49 #[.int .i64 g.q, .int .i64 g.hd, .int .i64 g.at_, wv2, rv2, ov2] := by rw [hV]; exact Blk.new _ _ _ _ (by simp [hgg])
  have VF := fun w' (hx : Ext w w') => ValidFormula_c m (.agg #[.int .i64 m.sy, .int .i64 m.st, mv]) (.agg #[.int .i64 f.q, .int .i64 f.hd, .int .i64 f.at_, wv, rv, ov]) wv rv ov f w' ⟨_, rfl, hrm.ext hx⟩ (h.ext hx) (by have := hnb.r1; have := hnb.ws; have := hnb.os; omega) hm
  have VG := fun w' (hx : Ext w w') => ValidFormula_c m (.agg #[.int .i64 m.sy, .int .i64 m.st, mv]) (.agg #[.int .i64 g.q, .int .i64 g.hd, .int .i64 g.at_, wv2, rv2, ov2]) wv2 rv2 ov2 g w' ⟨_, rfl, hrm.ext hx⟩ (h'.ext hx) (by have := hnb'.r1; have := hnb'.ws; have := hnb'.os; omega) hm
  rw [hf] at VF
  rw [hg] at VG
  have GR := fun w' (hx : Ext w w') => growthG_c m mv wv rv ov wv2 rv2 ov2 f g w' (h.ext hx) (h'.ext hx) hf hg hm
  have VF0 := VF V hX
  have HX := Lib.hid hX
  have HVG := Lib.hid VG
  have HGR := Lib.hid GR
  have m0 := bm.cell 0
  have m1 := bm.cell 1
  have m2 := bm.cell 2
  have a0 := bf.cell 0
  have a1 := bf.cell 1
  have a2 := bf.cell 2
  have a3 := bf.cell 3
  have a4 := bf.cell 4
  have a5 := bf.cell 5
  have b0 := bh.cell 0
  have b1 := bh.cell 1
  have b2 := bh.cell 2
  have b3 := bh.cell 3
  have b4 := bh.cell 4
  have b5 := bh.cell 5
  simp only [List.getElem?_toArray, List.getElem?_cons_zero, List.getElem?_cons_succ] at m0 m1 m2 a0 a1 a2 a3 a4 a5 b0 b1 b2 b3 b4 b5
  clear VF VG GR hX bm bf bh hnb hnb' h h' hf hg hm hrm
  go_enter Tryz.func22, Tryz.ntmps22
  go_wp2_with fail
  try rw [← hV]
  try rw [hgg]
  clear hV hgg
  refine VF0.mono ?_
  rintro e w1 ⟨rfl, hx1⟩
  have m0 := hx1.cell m0
  have m1 := hx1.cell m1
  have m2 := hx1.cell m2
  have a0 := hx1.cell a0
  have a1 := hx1.cell a1
  have a2 := hx1.cell a2
  have a3 := hx1.cell a3
  have a4 := hx1.cell a4
  have a5 := hx1.cell a5
  have b0 := hx1.cell b0
  have b1 := hx1.cell b1
  have b2 := hx1.cell b2
  have b3 := hx1.cell b3
  have b4 := hx1.cell b4
  have b5 := hx1.cell b5
  have hX1 := HX.out.trans hx1
  have VF1 := HVG.out w1 hX1
  have HX1 := Lib.hid hX1
  clear VF0 hX1 hx1
  go_wp2_with fail
  refine VF1.mono ?_
  rintro e w2 ⟨rfl, hx2⟩
  have m0 := hx2.cell m0
  have m1 := hx2.cell m1
  have m2 := hx2.cell m2
  have a0 := hx2.cell a0
  have a1 := hx2.cell a1
  have a2 := hx2.cell a2
  have a3 := hx2.cell a3
  have a4 := hx2.cell a4
  have a5 := hx2.cell a5
  have b0 := hx2.cell b0
  have b1 := hx2.cell b1
  have b2 := hx2.cell b2
  have b3 := hx2.cell b3
  have b4 := hx2.cell b4
  have b5 := hx2.cell b5
  have hX2 := HX1.out.trans hx2
  have GR1 := HGR.out w2 hX2
  have HX2 := Lib.hid hX2
  clear VF1 hX2 hx2
  go_wp2_with fail
  refine GR1.mono ?_
  rintro e w3 ⟨hr, hx3⟩
  rcases hr with ⟨l, u, base, hl, rfl, hu, hbase⟩ | ⟨c, hl⟩
  · have HL := Lib.hid hl
    go_wp2
    exact bodyPost_ret (v := .tuple #[u, .int .i64 0]) (by simp [results, Tryz.results22, go_sem]) rfl ⟨.inl ⟨l, u, base, HL.out, rfl, hu, Nat.le_trans HX2.out.size hbase⟩, HX2.out.trans hx3⟩
  · obtain ⟨cc, rfl, hcc⟩ := hl
    have HL := Lib.hid c
    clear c
    go_wp2
    exact bodyPost_ret (v := .tuple #[.slice none 0 0, .int .i64 cc]) (by simp [results, Tryz.results22, go_sem]) rfl ⟨.inr ⟨HL.out, cc, rfl, hcc⟩, HX2.out.trans hx3⟩
theorem runF_succ {m : MachD} : ∀ {k : Nat} {f f' : FoD}, runF m k f = some f' → runF m (k + 1) f = match stepF m f' with | some (_, g) => some g | none => none
  | 0, f, f', h => by
    injection h with h
    subst h
    show (match stepF m f with | some (_, g) => runF m 0 g | none => none) = _
    rfl
  | k + 1, f, f', h => by
    unfold runF at h
    show (match stepF m f with | some (_, g) => runF m (k + 1) g | none => none) = _
    split at h
    · rename_i q g e
      rw [e]
      exact runF_succ h
    · cases h
theorem runF_none {m : MachD} : ∀ {k : Nat} {f : FoD} (j : Nat), runF m k f = none → runF m (k + j) f = none
  | 0, f, j, h => by cases h
  | k + 1, f, j, h => by
    unfold runF at h
    rw [show k + 1 + j = (k + j) + 1 by omega]
    show (match stepF m f with | some (_, g) => runF m (k + j) g | none => none) = none
    split at h
    · rename_i q g e
      rw [e]
      exact runF_none j h
    · rename_i e
      rw [e]
/-- What RunFormula returns. -/
theorem OwnLists.base0 {b b' : Nat} {w : World} {v : Value} {xss : List (List Int)} (h : OwnLists b w v xss) (hb : b' ≤ b) : OwnLists b' w v xss := by
  obtain ⟨vs, x, y⟩ := h
  exact ⟨vs, ownsRow_base x hb, fun i hi => by obtain ⟨u, c, d⟩ := y i hi; exact ⟨u, c, ownsRow_base d hb⟩⟩
def RunFRes (m : MachD) (f : FoD) (n : Nat) (w : World) (e : Ending) (w' : World) : Prop :=
  ((∃ g wv rv ov, runF m n f = some g ∧ foOk m g = true ∧ e = .returned (.tuple #[.agg #[.int .i64 g.q, .int .i64 g.hd, .int .i64 g.at_, wv, rv, ov], .int .i64 0]) ∧ FoV w' (.agg #[.int .i64 g.q, .int .i64 g.hd, .int .i64 g.at_, wv, rv, ov]) g wv rv ov ∧ OwnLists w.heap.size w' wv g.ws ∧ OwnLists w.heap.size w' rv g.rs ∧ OwnInts w.heap.size w' ov g.os) ∨
   (runF m n f = none ∧ ∃ c v, e = .returned (.tuple #[v, .int .i64 c]) ∧ v = .agg #[.int .i64 0, .int .i64 0, .int .i64 0, .slice none 0 0, .slice none 0 0, .slice none 0 0] ∧ (c = 6 ∨ c = 5))) ∧ Ext w w'
theorem foOk_small {m : MachD} {f : FoD} (h : foOk m f = true) : FoSmall f := by
  obtain ⟨a, b, c, d, e, _⟩ := foOk_parts h
  exact ⟨a, b, c, fun x hx => by have := d x hx; omega, fun x hx => by have := e x hx; omega⟩
set_option maxRecDepth 20000 in
set_option maxHeartbeats 8000000 in
theorem RunFormula_c (m : MachD) (mv wv rv ov : Value) (f : FoD) (n : Nat) (w : World) (h : FoV w (.agg #[.int .i64 f.q, .int .i64 f.hd, .int .i64 f.at_, wv, rv, ov]) f wv rv ov) (hf : foOk m f = true) (hm : machOk m = true) (hrm : Rules w mv m.rules) (hn : n ≤ 400) :
    Calls Tryz.prog 21 #[.agg #[.int .i64 m.sy, .int .i64 m.st, mv], .agg #[.int .i64 f.q, .int .i64 f.hd, .int .i64 f.at_, wv, rv, ov], .int .i64 (n : Int)] w (RunFRes m f n w) := by
  have hnb := foOk_nb hf
  obtain ⟨Am, cm, rfl, _, _⟩ := hrm.form
  obtain ⟨A1, c1, rfl, _, _⟩ := h.ws.form
  obtain ⟨A2, c2, rfl, _, _⟩ := h.rs.form
  obtain ⟨A3, c3, rfl, _, _⟩ := h.os.form
  obtain ⟨V, hV⟩ : ∃ V, V = ((w.alloc (.cells #[.int .i64 m.sy, .int .i64 m.st, .slice Am m.rules.length cm] 26)).alloc (.cells #[.int .i64 f.q, .int .i64 f.hd, .int .i64 f.at_, .slice A1 f.ws.length c1, .slice A2 f.rs.length c2, .slice A3 f.os.length c3] 49)).alloc (.cells #[.int .i64 0, .int .i64 0, .int .i64 0, .slice none 0 0, .slice none 0 0, .slice none 0 0] 49) := ⟨_, rfl⟩
  have hX : Ext w V := by rw [hV]; exact ((Ext.alloc _ _).trans (Ext.alloc _ _)).trans (Ext.alloc _ _)
  obtain ⟨gm, hgm⟩ : ∃ g, w.heap.size = g := ⟨_, rfl⟩
  have bm : Blk V gm 26 #[.int .i64 m.sy, .int .i64 m.st, .slice Am m.rules.length cm] := by rw [hV]; exact ((Blk.new _ _ _ _ hgm).alloc _).alloc _
  have bf : Blk V (gm + 1) 49 #[.int .i64 f.q, .int .i64 f.hd, .int .i64 f.at_, .slice A1 f.ws.length c1, .slice A2 f.rs.length c2, .slice A3 f.os.length c3] := by rw [hV]; exact (Blk.new _ _ _ _ (by simp [hgm])).alloc _
  have bo : Blk V (gm + 1 + 1) 49 #[.int .i64 0, .int .i64 0, .int .i64 0, .slice none 0 0, .slice none 0 0, .slice none 0 0] := by rw [hV]; exact Blk.new _ _ _ _ (by simp [hgm])
  have VF := ValidFormula_c m (.agg #[.int .i64 m.sy, .int .i64 m.st, .slice Am m.rules.length cm]) _ _ _ _ f V ⟨_, rfl, hrm.ext hX⟩ (h.ext hX) (by have := hnb.r1; have := hnb.ws; have := hnb.os; omega) hm
  rw [hf] at VF
  have HB := Lib.hid (And.intro bm (And.intro bf bo))
  have HX := Lib.hid hX
  have HH := Lib.hid (And.intro (h.ext hX) (And.intro hf (And.intro hm (hrm.ext hX))))
  have HGM := Lib.hid hgm
  have m0 := bm.cell 0
  have m1 := bm.cell 1
  have m2 := bm.cell 2
  have a0 := bf.cell 0
  have a1 := bf.cell 1
  have a2 := bf.cell 2
  have a3 := bf.cell 3
  have a4 := bf.cell 4
  have a5 := bf.cell 5
  simp only [List.getElem?_toArray, List.getElem?_cons_zero, List.getElem?_cons_succ] at m0 m1 m2 a0 a1 a2 a3 a4 a5
  clear hnb bm bf bo hX h hf hm hrm
  go_enter Tryz.func21, Tryz.ntmps21
  go_wp2_with fail
  try rw [← hV]
  try rw [hgm]
  clear hV hgm
  refine VF.mono ?_
  rintro e w1 ⟨rfl, hx1⟩
  clear VF m0 m1 m2 a0 a1 a2 a3 a4 a5
  have hin : inB (n : Int) 0 400 = true := inB_iff.2 (by omega)
  go_wp2_with fail
  refine (within_c _ _ _ _).mono ?_
  rintro e w2 ⟨rfl, rfl⟩
  rw [hin]
  have bf1 := HB.out.2.1.ext hx1
  have a0 := bf1.cell 0
  have a1 := bf1.cell 1
  have a2 := bf1.cell 2
  have a3 := bf1.cell 3
  have a4 := bf1.cell 4
  have a5 := bf1.cell 5
  simp only [List.getElem?_toArray, List.getElem?_cons_zero, List.getElem?_cons_succ] at a0 a1 a2 a3 a4 a5
  have CF := copyFormulaO_c _ _ _ _ f w1 (HH.out.1.ext hx1) (foOk_small HH.out.2.1)
  have HX1 := Lib.hid hx1
  clear bf1 hx1 hin
  go_wp2_with fail
  refine CF.mono ?_
  rintro e w3 ⟨⟨gp, gw, gr, go, cw, cr, co, vw, vr, rfl, hF⟩, hx3⟩
  have HF := Lib.hid hF
  clear CF hF hx3 a0 a1 a2 a3 a4 a5
  go_wp2_with fail
  go_loopw [24] (fun a wr => ∃ (k : Nat) (f' : FoD) (vw' vr' : List Value), k ≤ n ∧ a = .int .i64 (k : Int) ∧ Hid (runF m k f = some f') ∧ Hid (foOk m f' = true) ∧ Hid (FoO w1 (fun k => k < w1.heap.size) wr gp f' gw gr go cw cr co vw' vr')) (fun a _ => n - (intOf a).toNat)
  case atStart => exact ⟨0, f, _, _, Nat.zero_le _, rfl, Lib.hid rfl, Lib.hid HH.out.2.1, HF⟩
  case round =>
    obtain ⟨k, f', vw', vr', hk, rfl, HRN, HOK, HFO⟩ := hrel
    have hxr : Ext w1 wr := HFO.out.ext0
    by_cases hlt : k < n
    · have hdl : decide ((k : Int) < (n : Int)) = true := decide_eq_true (by omega)
      have bm1 := (HB.out.1.ext HX1.out).ext hxr
      have m0 := bm1.cell 0
      have m1 := bm1.cell 1
      have m2 := bm1.cell 2
      simp only [List.getElem?_toArray, List.getElem?_cons_zero, List.getElem?_cons_succ] at m0 m1 m2
      have SF := stepFo_c m (.slice Am m.rules.length cm) HFO.out ((HH.out.2.2.2.ext HX1.out).ext hxr) HH.out.2.2.1 HOK.out
      clear bm1 hxr
      go_wp2_with fail
      refine SF.mono ?_
      rintro e w5 ⟨hres, _, hx5, _⟩
      rcases hres with ⟨kd, f2, hst, rfl, vw2, vr2, hF2⟩ | ⟨hst, cc, rfl, hcc⟩
      · have HRN2 : Hid (runF m (k + 1) f = some f2) := Lib.hid (by rw [runF_succ HRN.out, hst])
        have HOK2 : Hid (foOk m f2 = true) := Lib.hid (step_raw hst).2
        have HF2 := Lib.hid hF2
        clear SF hst hF2 hx5 m0 m1 m2
        go_wp2
        go_roundw
        case rel => exact ⟨k + 1, f2, _, _, by omega, by go_num, HRN2, HOK2, HF2⟩
        case measure => simp [intOf]; omega
      · have HNO : Hid (runF m n f = none) := Lib.hid (by
          have e1 : runF m (k + 1) f = none := by rw [runF_succ HRN.out, hst]
          have := runF_none (n - (k + 1)) e1
          rwa [show k + 1 + (n - (k + 1)) = n by omega] at this)
        have hc0 : (cc != 0) = true := by rcases hcc with rfl | rfl <;> rfl
        have HX5 := Lib.hid hx5
        have HCC := Lib.hid hcc
        have bo5 := (HB.out.2.2.ext HX1.out).ext hx5
        have q0 := bo5.cell 0
        have q1 := bo5.cell 1
        have q2 := bo5.cell 2
        have q3 := bo5.cell 3
        have q4 := bo5.cell 4
        have q5 := bo5.cell 5
        simp only [List.getElem?_toArray, List.getElem?_cons_zero, List.getElem?_cons_succ] at q0 q1 q2 q3 q4 q5
        have z0 := bo5.frozen 0
        have z1 := bo5.frozen 1
        have z2 := bo5.frozen 2
        have z3 := bo5.frozen 3
        have z4 := bo5.frozen 4
        have z5 := bo5.frozen 5
        clear SF hst hx5 m0 m1 m2 hcc bo5
        go_wp2
        refine bodyPost_ret (v := .tuple #[.agg #[.int .i64 0, .int .i64 0, .int .i64 0, .slice none 0 0, .slice none 0 0, .slice none 0 0], .int .i64 cc]) (by simp [results, Tryz.results21, go_sem, q0, q1, q2, q3, q4, q5]) rfl ?_
        exact ⟨.inr ⟨HNO.out, cc, _, rfl, rfl, HCC.out⟩, ext_set6 ((HX.out.trans HX1.out).trans HX5.out) (by have := HGM.out; omega) _ _ _ _ _ _⟩
    · have hdl : decide ((k : Int) < (n : Int)) = false := decide_eq_false (by omega)
      have hke : k = n := by omega
      subst hke
      have hb := HFO.out.blk
      have r0 := hb.cell 0
      have r1 := hb.cell 1
      have r2 := hb.cell 2
      have r3 := hb.cell 3
      have r4 := hb.cell 4
      have r5 := hb.cell 5
      have bo5 := (HB.out.2.2.ext HX1.out).ext hxr
      have q0 := bo5.cell 0
      have q1 := bo5.cell 1
      have q2 := bo5.cell 2
      have q3 := bo5.cell 3
      have q4 := bo5.cell 4
      have q5 := bo5.cell 5
      simp only [List.getElem?_toArray, List.getElem?_cons_zero, List.getElem?_cons_succ] at r0 r1 r2 r3 r4 r5 q0 q1 q2 q3 q4 q5
      have z0 := bo5.frozen 0
      have z1 := bo5.frozen 1
      have z2 := bo5.frozen 2
      have z3 := bo5.frozen 3
      have z4 := bo5.frozen 4
      have z5 := bo5.frozen 5
      have HXR := Lib.hid (And.intro hxr bo5)
      clear hb bo5 hxr
      go_wp2
      refine bodyPost_ret (v := .tuple #[.agg #[.int .i64 f'.q, .int .i64 f'.hd, .int .i64 f'.at_, .slice (some ⟨gw, 0, none⟩) f'.ws.length cw, .slice (some ⟨gr, 0, none⟩) f'.rs.length cr, .slice (some ⟨go, 0, none⟩) f'.os.length co], .int .i64 0]) (by simp [results, Tryz.results21, go_sem, q0, q1, q2, q3, q4, q5]) rfl ?_
      have bo5 := HXR.out.2
      have oW : OwnLists w1.heap.size wr (.slice (some ⟨gw, 0, none⟩) f'.ws.length cw) f'.ws := ⟨_, HFO.out.ow, HFO.out.iw⟩
      have oR : OwnLists w1.heap.size wr (.slice (some ⟨gr, 0, none⟩) f'.rs.length cr) f'.rs := ⟨_, HFO.out.or, HFO.out.ir⟩
      have oW1 := oW.far6 bo5 (by decide) (by decide) (.int .i64 f'.q) (.int .i64 f'.hd) (.int .i64 f'.at_) (.slice (some ⟨gw, 0, none⟩) f'.ws.length cw) (.slice (some ⟨gr, 0, none⟩) f'.rs.length cr) (.slice (some ⟨go, 0, none⟩) f'.os.length co)
      have oR1 := oR.far6 bo5 (by decide) (by decide) (.int .i64 f'.q) (.int .i64 f'.hd) (.int .i64 f'.at_) (.slice (some ⟨gw, 0, none⟩) f'.ws.length cw) (.slice (some ⟨gr, 0, none⟩) f'.rs.length cr) (.slice (some ⟨go, 0, none⟩) f'.os.length co)
      have oO1 : OwnInts _ _ _ _ := far_blk6 HFO.out.oo bo5 (by decide) (.int .i64 f'.q) (.int .i64 f'.hd) (.int .i64 f'.at_) (.slice (some ⟨gw, 0, none⟩) f'.ws.length cw) (.slice (some ⟨gr, 0, none⟩) f'.rs.length cr) (.slice (some ⟨go, 0, none⟩) f'.os.length co)
      exact ⟨.inl ⟨f', _, _, _, HRN.out, HOK.out, rfl, ⟨rfl, oW1.lists, oR1.lists, oO1.ints, oO1.flat⟩, oW1.base0 (HX.out.trans HX1.out).size, oR1.base0 (HX.out.trans HX1.out).size, ownsRow_base oO1 (HX.out.trans HX1.out).size⟩, ext_set6 ((HX.out.trans HX1.out).trans HXR.out.1) (by have := HGM.out; omega) _ _ _ _ _ _⟩
end Go.Proofs.YtojiammendjpkaaGreat
end
