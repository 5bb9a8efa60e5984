/- Contracts of the reference's list without blanks at its end, of its symbol under a head, and of its rule for a configuration with several tapes.
Contract of what the reference's machine with one tape does where symbols are looked for, and in all its places.
Contract of the program's numbers of places, of the machine with one tape for several. Fewer than 100000 places have a number. -/
import Derived.Test.YtgeckhjkahnonaaGreatDoorO13
import Derived.Test.YtgeckhjkahnonaaGreatDoorO02
import Derived.Test.YtgeckhjkahnonaaGreatDoorO07
import Derived.Test.YtgeckhjkahnonaaGreatDoorO17
import Derived.Test.YtgeckhjkahnonaaGreatDoorO12
import Derived.Shelf.SlSortCmp.Insertion
import Derived.Test.YtgeckhjkahnonaaGreatDoorO21
import Derived.Test.YtgeckhjkahnonaaGreatDoorO11
import Derived.Test.YtgeckhjkahnonaaGreatDoorO04
import Derived.Test.YtgeckhjkahnonaaGreatDoorO16
import Derived.Maps.AppendAt
import Derived.Test.YtgeckhjkahnonaaGreatDoorO15
import Derived.StillTailTactics
import Derived.Deep.RegionLaw
import Derived.Deep.AppendLies
section
set_option linter.unusedVariables false
set_option linter.unusedSimpArgs false
namespace Go.Proofs.YtgeckhjkahnonaaGreatDoor
open Go Go.RowKit Go.Proofs
set_option maxHeartbeats 400000
/-- A tape behind a pointer. -/
def TapP (w : World) (b o : Nat) (t : TapeD) : Prop := ∃ lv rv, w.cell? ⟨b, o, none⟩ = some lv ∧ w.cell? ⟨b, o + 1, none⟩ = some rv ∧ Ints w lv t.l ∧ Ints w rv t.r
theorem TapP.ext {w w' : World} {b o : Nat} {t : TapeD} (h : TapP w b o t) (he : Ext w w') : TapP w' b o t := by
  obtain ⟨lv, rv, a, c, d, e⟩ := h
  exact ⟨lv, rv, he.cell a, he.cell c, d.ext he, e.ext he⟩
end Go.Proofs.YtgeckhjkahnonaaGreatDoor
end
section
set_option linter.unusedSimpArgs false
set_option linter.unusedVariables false
namespace Go.Proofs.YtgeckhjkahnonaaGreatDoor
open Go Go.RowKit Go.Proofs Go.Maps
set_option maxHeartbeats 400000
/-- A number of a list of one's own is stored. -/
theorem own_put {base g n c : Nat} {w : World} {zs : List Int} (h : OwnInts base w (.slice (some ⟨g, 0, none⟩) n c) zs) (hn : n = zs.length) {k : Nat} (hk : k < n) (x : Int) : OwnInts base (w.setCell ⟨g, k, none⟩ (.int .i64 x)) (.slice (some ⟨g, 0, none⟩) n c) (zs.set k x) := by
  obtain ⟨h1, h2⟩ := h
  rcases h2 with ⟨e, _⟩ | ⟨g', cap, cur, e, hb, hh, hnc, hcm, hcs, htk⟩
  · cases e
  · cases e
    refine ⟨by simp, .inr ⟨g, c, cur.setIfInBounds k (.int .i64 x), by simp [hn], hb, (Blk.set_ (show Blk w g 2 cur from hh) k _), by simpa using hnc, hcm, by simpa using hcs, ?_⟩⟩
    have hl : (zs.set k x).length = zs.length := by simp
    rw [hl, Array.toList_setIfInBounds, List.take_set, htk]
    simp [ivs, List.map_set]
end Go.Proofs.YtgeckhjkahnonaaGreatDoor
end
section
namespace Go.Proofs.YtgeckhjkahnonaaGreatDoor
open Go Go.RowKit Go.Proofs Go.Maps
set_option maxHeartbeats 400000
theorem laidOutW : laidOutB Tryz.prog = true := by kernel_rfl
theorem mpTy : MapTy Tryz.prog 68 73 2 where
  keyed := Keyed.of_law (deep_law_laid laidOutW (m := 8) (by omega) (by decide +kernel) (by kernel_rfl) (by kernel_rfl))
  und := Tryz.underlying68
  el := Tryz.underlying2
  zero w := by kernel_rfl
theorem smallM_wf {z : Int} (h : smallM z) : (Lit.int .i64 z).wf = true := by
  obtain ⟨_, _⟩ := h
  simp [Lit.wf, IntKind.min, IntKind.max, IntKind.signed, IntKind.bits]
  omega
/-- All numbers of a place are small. -/
def SmM (x : MP) : Prop := smallM x.k ∧ smallM x.a ∧ smallM x.t ∧ smallM x.c ∧ smallM x.f0 ∧ smallM x.f1 ∧ smallM x.f2 ∧ smallM x.d
theorem mpKey (p : MP) (hs : SmM p) : ∃ l, keyOf Tryz.prog 73 p.v = some l := by
  obtain ⟨h0, h1, h2, h3, h4, h5, h6, h7⟩ := hs
  have w0 := smallM_wf h0
  have w1 := smallM_wf h1
  have w2 := smallM_wf h2
  have w3 := smallM_wf h3
  have w4 := smallM_wf h4
  have w5 := smallM_wf h5
  have w6 := smallM_wf h6
  have w7 := smallM_wf h7
  have c8 : Tryz.prog.cellsOf 73 = 8 := by kernel_rfl
  have c3 : Tryz.prog.cellsOf 71 = 3 := by kernel_rfl
  have c1 : Tryz.prog.cellsOf 2 = 1 := by kernel_rfl
  have kt : Tryz.prog.keyType 73 = true := by kernel_rfl
  obtain ⟨d, hd⟩ : ∃ d, Tryz.prog.types.size = d + 2 := ⟨Tryz.prog.types.size - 2, by decide +kernel⟩
  have hf : p.v.formed Tryz.prog 73 = true := by simp [Value.formed, MP.v, Tryz.underlying73, c8]
  have hK : Tryz.prog.keyLits (Tryz.prog.types.size + 1) 73 p.v.cells.toList = some [.int .i64 p.k, .int .i64 p.a, .int .i64 p.t, .int .i64 p.c, .int .i64 p.f0, .int .i64 p.f1, .int .i64 p.f2, .int .i64 p.d] := by
    rw [hd]
    simp [Program.keyLits, MP.v, Value.cells, Tryz.underlying73, Tryz.underlying71, Tryz.underlying2, c8, c3, c1, w0, w1, w2, w3, w4, w5, w6, w7, show List.range 3 = [0, 1, 2] from rfl]
  unfold keyOf
  rw [Tryz.underlying73]
  simp only [kt, hf, Bool.and_self, if_true, hK]
  exact ⟨_, rfl⟩
def mvs (ps : List MP) : List Value := ps.flatMap fun p => [.int .i64 p.k, .int .i64 p.a, .int .i64 p.t, .int .i64 p.c, .int .i64 p.f0, .int .i64 p.f1, .int .i64 p.f2, .int .i64 p.d]
theorem mvs_snoc (ps : List MP) (x : MP) : mvs (ps ++ [x]) = mvs ps ++ [.int .i64 x.k, .int .i64 x.a, .int .i64 x.t, .int .i64 x.c, .int .i64 x.f0, .int .i64 x.f1, .int .i64 x.f2, .int .i64 x.d] := by simp [mvs]
/-- The places, in memory. -/
structure PlM (base : Nat) (w : World) (bx : Nat) (sy st : Int) (rs : List RuleD) (ps : List MP) (rv pv : Value) (bm : Nat) : Prop where
  blk : Blk w bx 70 #[.int .i64 sy, .int .i64 st, rv, pv, .map (some bm)]
  rules : OwnRules base w rv rs
  places : w.ownsRow base 73 8 pv ps.length (mvs ps)
  tbl : Tbl Tryz.prog 73 2 MP.v w bm ps.length (numOf ps)
  lowX : base ≤ bx
  lowM : base ≤ bm
theorem PlM.ext {base : Nat} {w w' : World} {bx : Nat} {sy st : Int} {rs : List RuleD} {ps : List MP} {rv pv : Value} {bm : Nat} (h : PlM base w bx sy st rs ps rv pv bm) (he : Ext w w') : PlM base w' bx sy st rs ps rv pv bm :=
  ⟨h.blk.ext he, h.rules.ext he, ownsRow_ext h.places he, h.tbl.ext he, h.lowX, h.lowM⟩
theorem mpInfo : (Tryz.prog.info? 73).map (fun i => (i.zero, i.size, i.bytes)) = some (some (.agg #[.int .i64 0, .int .i64 0, .int .i64 0, .int .i64 0, .int .i64 0, .int .i64 0, .int .i64 0, .int .i64 0]), 8, 64) := by kernel_rfl
theorem sizeMp_c (v : Value) (n : Nat) (xs : List Value) (w : World) (h : Row w 8 v n xs) : Calls Tryz.prog 66 #[v] w fun e w' => e = .returned (.int .i64 n) ∧ w = w' := by
  obtain ⟨A, c, rfl, h1, h2, _⟩ := h.form
  go_enter Tryz.func66, Tryz.ntmps66
  go_wp2
  go_ret
  exact ⟨rfl, rfl⟩
theorem PlM.added {base : Nat} {w3 w5 : World} {bx : Nat} {sy st : Int} {rs : List RuleD} {ps : List MP} {x : MP} {rv pv v' : Value} {bm : Nat} (hin : x ∉ ps)
    (B4 : Blk w3 bx 70 #[.int .i64 sy, .int .i64 st, rv, pv, .map (some bm)]) (R4 : OwnRules base w3 rv rs) (P4 : w3.ownsRow base 73 8 pv ps.length (mvs ps))
    (T4 : Tbl Tryz.prog 73 2 MP.v w3 bm (ps.length + 1) (fun y => if y = x then some (ps.length : Int) else numOf ps y)) (lowX : base ≤ bx) (lowM : base ≤ bm)
    (hown : w5.ownsRow base 73 8 v' (ps.length + 1) (mvs ps ++ [.int .i64 x.k, .int .i64 x.a, .int .i64 x.t, .int .i64 x.c, .int .i64 x.f0, .int .i64 x.f1, .int .i64 x.f2, .int .i64 x.d])) (hg : w3.grownBy w5 pv.ownBlock) :
    PlM base (w5.setCell ⟨bx, 3, none⟩ v') bx sy st rs (ps ++ [x]) rv v' bm := by
  have B5 := Blk.apart B4 P4 (by decide) hg
  have R5 : OwnRules base w5 rv rs := World.ownsRow.kept R4 hg (own_ne R4 P4 (by decide))
  have T5 := T4.kept hg (T4.ne_row P4)
  have hgs := grownBy_setCell w5 ⟨bx, 3, none⟩ v'
  refine ⟨B5.set_ 3 v', own_kept R5 hgs (blk_ne_row B5 R5 (by decide)), ?_, ?_, lowX, lowM⟩
  · have := own_kept hown hgs (blk_ne_row B5 hown (by decide))
    rw [mvs_snoc]
    simpa using this
  · have := T5.setCell (a := ⟨bx, 3, none⟩) (T5.ne_blk B5) v'
    rw [numOf_snoc hin]
    simpa using this
def NumM (base : Nat) (w : World) (bx : Nat) (sy st : Int) (rs : List RuleD) (ps : List MP) (x : MP) (rv : Value) (bm : Nat) (e : Ending) (w' : World) : Prop :=
  e = .returned (.int .i64 ((addP ps x).idxOf x : Nat)) ∧ (∃ pv, PlM base w' bx sy st rs (addP ps x) rv pv bm) ∧ Below base w w' ∧ ∀ g t cs, Blk w g t cs → t ≠ 70 → t ≠ 73 → Blk w' g t cs
set_option maxHeartbeats 4000000 in
set_option maxRecDepth 20000 in
theorem numberM_c (base : Nat) (w : World) (bx : Nat) (sy st : Int) (rs : List RuleD) (ps : List MP) (x : MP) (rv pv : Value) (bm : Nat) (h : PlM base w bx sy st rs ps rv pv bm) (hb : base ≤ w.heap.size) (hn : ps.length ≤ 100000) (hs : SmM x) :
    Calls Tryz.prog 64 #[.pointer (some ⟨bx, 0, none⟩), x.v] w (NumM base w bx sy st rs ps x rv bm) := by
  have hk := mpKey x hs
  obtain ⟨W, hW⟩ : ∃ W, W = w.alloc (.cells #[.int .i64 x.k, .int .i64 x.a, .int .i64 x.t, .int .i64 x.c, .int .i64 x.f0, .int .i64 x.f1, .int .i64 x.f2, .int .i64 x.d] 73) := ⟨_, rfl⟩
  have hXW : Ext w W := by rw [hW]; exact Ext.alloc _ _
  have bX : Blk W w.heap.size 73 #[.int .i64 x.k, .int .i64 x.a, .int .i64 x.t, .int .i64 x.c, .int .i64 x.f0, .int .i64 x.f1, .int .i64 x.f2, .int .i64 x.d] := by rw [hW]; exact Blk.new _ _ _ _ rfl
  have H := h.ext hXW
  have hlook := fun d os => (H.ext (below_regrown W d os)).tbl.lookup2 mpTy x hk
  simp only [MP.v] at hlook ⊢
  obtain ⟨Ap, cp, rfl, hp1, hp2, _⟩ := (ownsRow_row h.places).form
  have k4 := H.blk.cell 4
  have x0 := bX.cell 0
  have x1 := bX.cell 1
  have x2 := bX.cell 2
  have x3 := bX.cell 3
  have x4 := bX.cell 4
  have x5 := bX.cell 5
  have x6 := bX.cell 6
  have x7 := bX.cell 7
  simp only [List.getElem?_toArray, List.getElem?_cons_zero, List.getElem?_cons_succ] at k4 x0 x1 x2 x3 x4 x5 x6 x7
  have d4 := cellR k4
  have y0 := cellR x0
  have y1 := cellR x1
  have y2 := cellR x2
  have y3 := cellR x3
  have y4 := cellR x4
  have y5 := cellR x5
  have y6 := cellR x6
  have y7 := cellR x7
  by_cases hin : x ∈ ps
  · have hs : (numOf ps x).isSome = true := by simp [numOf, hin]
    rw [hs, idx_old hin] at hlook
    go_enter Tryz.func64, Tryz.ntmps64
    go_wp2_with fail
    rw [← hW]
    clear hW
    refine wp_region_ext (by kernel_rfl) (by kernel_rfl) ?_
    repeat (go_big_quiet_step (fail))
    refine wpQuiet_nil ?_
    intro w2 hx2
    go_wp2
    go_ret
    refine ⟨?_, ⟨.slice Ap ps.length cp, ?_⟩, ?_, fun g t cs hb _ _ => hb.ext (hXW.trans hx2)⟩
    · rw [addP_old hin]; rfl
    · rw [addP_old hin]; exact H.ext hx2
    · exact Below.mono (hXW.trans hx2) hb
  · have hs : (numOf ps x).isSome = false := by simp [numOf, hin]
    have hs0 : (numOf ps x).getD 0 = 0 := by simp [numOf, hin]
    rw [hs, hs0] at hlook
    go_enter Tryz.func64, Tryz.ntmps64
    go_wp2_with fail
    rw [← hW]
    clear hW
    refine wp_region_ext (by kernel_rfl) (by kernel_rfl) ?_
    repeat (go_big_quiet_step (fail))
    refine wpQuiet_nil ?_
    intro w2 hxw2
    have H2 := H.ext hxw2
    have X2 := bX.ext hxw2
    have hX2 := hXW.trans hxw2
    have c3 := H2.blk.cell 3
    have c4 := H2.blk.cell 4
    have x0 := X2.cell 0
    have x1 := X2.cell 1
    have x2 := X2.cell 2
    have x3 := X2.cell 3
    have x4 := X2.cell 4
    have x5 := X2.cell 5
    have x6 := X2.cell 6
    have x7 := X2.cell 7
    simp only [List.getElem?_toArray, List.getElem?_cons_zero, List.getElem?_cons_succ] at c3 c4 x0 x1 x2 x3 x4 x5 x6 x7
    go_wp2_with fail
    refine (sizeMp_c _ _ _ _ (ownsRow_row H2.places)).mono ?_
    rintro e w' ⟨rfl, rfl⟩
    have H3 := H2.ext (Ext.drew w2)
    obtain ⟨w3, hupd, htbl, hg3⟩ := H3.tbl.update mpTy MP.v_inj (by unfold maxLen; omega) x hk (ps.length : Int) (smallM_wf (by unfold smallM; omega))
    simp only [MP.v] at hupd
    have hnb : some bx ≠ some bm := by
      have := H3.tbl.ne_blk H3.blk
      simp; omega
    have B4 := H3.blk.kept hg3 hnb
    have R4 := own_kept H3.rules hg3 (H3.tbl.ne_row H3.rules)
    have P4 := own_kept H3.places hg3 (H3.tbl.ne_row H3.places)
    have X4 := X2.drew.kept hg3 (by have := H3.tbl.ne_blk X2.drew; simp; omega)
    have hb4 : Below base w w3 := (Below.mono (hX2.trans (Ext.drew w2)) hb).grown hg3 (by have := hX2.size; simp; omega) (fun b hb => by injection hb with hb; subst hb; exact H3.lowM)
    have hsz4 : base ≤ w3.heap.size := by have := hg3.size; have := hX2.size; simp at *; omega
    have KF : Hid (∀ g t cs, Blk w g t cs → Blk w3 g t cs) := by
      unfold Hid
      intro g t cs hg
      have hg2 := hg.ext (hX2.trans (Ext.drew w2))
      exact hg2.kept hg3 (by have := H3.tbl.ne_blk hg2; simp; omega)
    obtain ⟨i0, hi, hz0, hz1, hz2⟩ := info_parts mpInfo
    go_wp2
    go_still_tail 6, (by kernel_rfl)
    change wpList _ _ _ _ _ w2.drew
    generalize w2.drew = w2d at *
    clear x0 x1 x2 x3 x4 x5 x6 x7 c3 c4
    have c3 := B4.cell 3
    have x0 := X4.cell 0
    have x1 := X4.cell 1
    have x2 := X4.cell 2
    have x3 := X4.cell 3
    have x4 := X4.cell 4
    have x5 := X4.cell 5
    have x6 := X4.cell 6
    have x7 := X4.cell 7
    simp only [List.getElem?_toArray, List.getElem?_cons_zero, List.getElem?_cons_succ] at c3 x0 x1 x2 x3 x4 x5 x6 x7
    go_wp2
    have eA := (Ext.alloc w3 (.cells #[.int .i64 x.k, .int .i64 x.a, .int .i64 x.t, .int .i64 x.c, .int .i64 x.f0, .int .i64 x.f1, .int .i64 x.f2, .int .i64 x.d] 73)).trans (Ext.drew _)
    have B5 := B4.ext eA
    have R5 := OwnRules.ext R4 eA
    have P5 := ownsRow_ext P4 eA
    have T5 := htbl.ext eA
    have hb5 : Below base w (w3.alloc (.cells #[.int .i64 x.k, .int .i64 x.a, .int .i64 x.t, .int .i64 x.c, .int .i64 x.f0, .int .i64 x.f1, .int .i64 x.f2, .int .i64 x.d] 73)).drew := (hb4.alloc hsz4 _).drew
    have c3' := (B4.alloc (.cells #[.int .i64 x.k, .int .i64 x.a, .int .i64 x.t, .int .i64 x.c, .int .i64 x.f0, .int .i64 x.f1, .int .i64 x.f2, .int .i64 x.d] 73)).cell 3
    simp only [List.getElem?_toArray, List.getElem?_cons_zero, List.getElem?_cons_succ] at c3'
    have LX := H3.lowX
    have LM := H3.lowM
    clear hlook hupd hg3 d4 y0 y1 y2 y3 y4 y5 y6 y7 k4
    go_region_law ((refine step_append_lies _ (by rfl) _ _ _ (by rfl) base 73 i0 _ 8 64 Tryz.underlying67 hi hz0 hz1 hz2 rfl (by omega) _ _ (mvs ps) (by rfl) P5 ⟨w3.heap.size, 0, none⟩ 1 1 [.int .i64 x.k, .int .i64 x.a, .int .i64 x.t, .int .i64 x.c, .int .i64 x.f0, .int .i64 x.f1, .int .i64 x.f2, .int .i64 x.d] (by rfl) rfl (World.news_of_block (w := (w3.alloc (.cells #[.int .i64 x.k, .int .i64 x.a, .int .i64 x.t, .int .i64 x.c, .int .i64 x.f0, .int .i64 x.f1, .int .i64 x.f2, .int .i64 x.d] 73)).drew) (heap_alloc_new w3 _)) (by simp [Value.oneCell']) (by omega) (by unfold maxLen; omega) (by omega) (by simp; omega) (w3.heap.size + 1) (by simp) ?_; intro g cap w5 hown5 hg5 hat5 hlt5; have PS := PlM.added hin B5 R5 P5 T5 LX LM hown5 hg5; have B6 := Blk.apart B5 P5 (by decide) hg5; have hb6 := hb5.grown hg5 (by simp; omega) (fun b hb => (P5.lt b hb).1); have q3 := B6.cell 3; have f3 := B6.frozen 3; simp only [List.getElem?_toArray, List.getElem?_cons_zero, List.getElem?_cons_succ] at q3))
    all_goals
      try go_wp2
      go_ret
      refine ⟨?_, ⟨.slice (some ⟨g, 0, none⟩) (ps.length + 1) cap, ?_⟩, ?_, fun g' t cs hg' n1 n2 => ?_⟩
      · rw [idx_new hin]; rfl
      · rw [addP_new hin]; exact PS
      · exact hb6.setCell LX _
      · have b5 := Blk.apart ((KF.out g' t cs hg').ext eA) P5 n2 hg5
        exact b5.far (p := ⟨bx, 3, none⟩) (blk_ne b5 B6 n1) _
end Go.Proofs.YtgeckhjkahnonaaGreatDoor
end
