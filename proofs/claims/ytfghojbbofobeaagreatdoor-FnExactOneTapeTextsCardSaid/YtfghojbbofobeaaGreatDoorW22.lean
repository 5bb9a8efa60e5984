/- Contract of the program's numbers of places, of the machine with one tape for several. Fewer than 100000 places have a number.
Contract of the program's machine with one tape for several. The machine is valid.
Contract of the reference's building of the machine with one tape for several. The machine is valid. -/
import Derived.Test.YtfghojbbofobeaaGreatDoorW10
import Derived.Test.YtfghojbbofobeaaGreatDoorW11
import Derived.Test.YtfghojbbofobeaaGreatDoorW09
import Derived.StillTailTactics
import Derived.Deep.RegionLaw
import Derived.Deep.AppendLies
import Derived.Maps.AppendAt
import Derived.Test.YtfghojbbofobeaaGreatDoorW14
import Derived.Test.YtfghojbbofobeaaGreatDoorW21
section
namespace Go.Proofs.YtfghojbbofobeaaGreatDoor
open Go Go.RowKit Go.Proofs Go.Maps
set_option maxHeartbeats 400000
theorem laidOutW : laidOutB Tryz.prog = true := by kernel_rfl
theorem mpTy : MapTy Tryz.prog 83 88 2 where
  keyed := Keyed.of_law (deep_law_laid laidOutW (m := 8) (by omega) (by decide +kernel) (by kernel_rfl) (by kernel_rfl))
  und := Tryz.underlying83
  el := Tryz.underlying2
  zero w := by kernel_rfl
theorem smallM_wf {z : Int} (h : smallM z) : (Lit.int .i64 z).wf = true := by
  obtain ⟨_, _⟩ := h
  simp [Lit.wf, IntKind.min, IntKind.max, IntKind.signed, IntKind.bits]
  omega
/-- All numbers of a place are small. -/
def SmM (x : MP) : Prop := smallM x.k ∧ smallM x.a ∧ smallM x.t ∧ smallM x.c ∧ smallM x.f0 ∧ smallM x.f1 ∧ smallM x.f2 ∧ smallM x.d
theorem mpKey (p : MP) (hs : SmM p) : ∃ l, keyOf Tryz.prog 88 p.v = some l := by
  obtain ⟨h0, h1, h2, h3, h4, h5, h6, h7⟩ := hs
  have w0 := smallM_wf h0
  have w1 := smallM_wf h1
  have w2 := smallM_wf h2
  have w3 := smallM_wf h3
  have w4 := smallM_wf h4
  have w5 := smallM_wf h5
  have w6 := smallM_wf h6
  have w7 := smallM_wf h7
  have c8 : Tryz.prog.cellsOf 88 = 8 := by kernel_rfl
  have c3 : Tryz.prog.cellsOf 86 = 3 := by kernel_rfl
  have c1 : Tryz.prog.cellsOf 2 = 1 := by kernel_rfl
  have kt : Tryz.prog.keyType 88 = true := by kernel_rfl
  obtain ⟨d, hd⟩ : ∃ d, Tryz.prog.types.size = d + 2 := ⟨Tryz.prog.types.size - 2, by decide +kernel⟩
  have hf : p.v.formed Tryz.prog 88 = true := by simp [Value.formed, MP.v, Tryz.underlying88, c8]
  have hK : Tryz.prog.keyLits (Tryz.prog.types.size + 1) 88 p.v.cells.toList = some [.int .i64 p.k, .int .i64 p.a, .int .i64 p.t, .int .i64 p.c, .int .i64 p.f0, .int .i64 p.f1, .int .i64 p.f2, .int .i64 p.d] := by
    rw [hd]
    simp [Program.keyLits, MP.v, Value.cells, Tryz.underlying88, Tryz.underlying86, Tryz.underlying2, c8, c3, c1, w0, w1, w2, w3, w4, w5, w6, w7, show List.range 3 = [0, 1, 2] from rfl]
  unfold keyOf
  rw [Tryz.underlying88]
  simp only [kt, hf, Bool.and_self, if_true, hK]
  exact ⟨_, rfl⟩
def mvs (ps : List MP) : List Value := ps.flatMap fun p => [.int .i64 p.k, .int .i64 p.a, .int .i64 p.t, .int .i64 p.c, .int .i64 p.f0, .int .i64 p.f1, .int .i64 p.f2, .int .i64 p.d]
theorem mvs_snoc (ps : List MP) (x : MP) : mvs (ps ++ [x]) = mvs ps ++ [.int .i64 x.k, .int .i64 x.a, .int .i64 x.t, .int .i64 x.c, .int .i64 x.f0, .int .i64 x.f1, .int .i64 x.f2, .int .i64 x.d] := by simp [mvs]
/-- The places, in memory. -/
structure PlM (base : Nat) (w : World) (bx : Nat) (sy st : Int) (rs : List RuleD) (ps : List MP) (rv pv : Value) (bm : Nat) : Prop where
  blk : Blk w bx 85 #[.int .i64 sy, .int .i64 st, rv, pv, .map (some bm)]
  rules : OwnRules base w rv rs
  places : w.ownsRow base 88 8 pv ps.length (mvs ps)
  tbl : Tbl Tryz.prog 88 2 MP.v w bm ps.length (numOf ps)
  lowX : base ≤ bx
  lowM : base ≤ bm
theorem PlM.ext {base : Nat} {w w' : World} {bx : Nat} {sy st : Int} {rs : List RuleD} {ps : List MP} {rv pv : Value} {bm : Nat} (h : PlM base w bx sy st rs ps rv pv bm) (he : Ext w w') : PlM base w' bx sy st rs ps rv pv bm :=
  ⟨h.blk.ext he, h.rules.ext he, ownsRow_ext h.places he, h.tbl.ext he, h.lowX, h.lowM⟩
theorem mpInfo : (Tryz.prog.info? 88).map (fun i => (i.zero, i.size, i.bytes)) = some (some (.agg #[.int .i64 0, .int .i64 0, .int .i64 0, .int .i64 0, .int .i64 0, .int .i64 0, .int .i64 0, .int .i64 0]), 8, 64) := by kernel_rfl
theorem sizeMp_c (v : Value) (n : Nat) (xs : List Value) (w : World) (h : Row w 8 v n xs) : Calls Tryz.prog 100 #[v] w fun e w' => e = .returned (.int .i64 n) ∧ w = w' := by
  obtain ⟨A, c, rfl, h1, h2, _⟩ := h.form
  go_enter Tryz.func100, Tryz.ntmps100
  go_wp2
  go_ret
  exact ⟨rfl, rfl⟩
theorem PlM.added {base : Nat} {w3 w5 : World} {bx : Nat} {sy st : Int} {rs : List RuleD} {ps : List MP} {x : MP} {rv pv v' : Value} {bm : Nat} (hin : x ∉ ps)
    (B4 : Blk w3 bx 85 #[.int .i64 sy, .int .i64 st, rv, pv, .map (some bm)]) (R4 : OwnRules base w3 rv rs) (P4 : w3.ownsRow base 88 8 pv ps.length (mvs ps))
    (T4 : Tbl Tryz.prog 88 2 MP.v w3 bm (ps.length + 1) (fun y => if y = x then some (ps.length : Int) else numOf ps y)) (lowX : base ≤ bx) (lowM : base ≤ bm)
    (hown : w5.ownsRow base 88 8 v' (ps.length + 1) (mvs ps ++ [.int .i64 x.k, .int .i64 x.a, .int .i64 x.t, .int .i64 x.c, .int .i64 x.f0, .int .i64 x.f1, .int .i64 x.f2, .int .i64 x.d])) (hg : w3.grownBy w5 pv.ownBlock) :
    PlM base (w5.setCell ⟨bx, 3, none⟩ v') bx sy st rs (ps ++ [x]) rv v' bm := by
  have B5 := Blk.apart B4 P4 (by decide) hg
  have R5 : OwnRules base w5 rv rs := World.ownsRow.kept R4 hg (own_ne R4 P4 (by decide))
  have T5 := T4.kept hg (T4.ne_row P4)
  have hgs := grownBy_setCell w5 ⟨bx, 3, none⟩ v'
  refine ⟨B5.set_ 3 v', own_kept R5 hgs (blk_ne_row B5 R5 (by decide)), ?_, ?_, lowX, lowM⟩
  · have := own_kept hown hgs (blk_ne_row B5 hown (by decide))
    rw [mvs_snoc]
    simpa using this
  · have := T5.setCell (a := ⟨bx, 3, none⟩) (T5.ne_blk B5) v'
    rw [numOf_snoc hin]
    simpa using this
def NumM (base : Nat) (w : World) (bx : Nat) (sy st : Int) (rs : List RuleD) (ps : List MP) (x : MP) (rv : Value) (bm : Nat) (e : Ending) (w' : World) : Prop :=
  e = .returned (.int .i64 ((addP ps x).idxOf x : Nat)) ∧ (∃ pv, PlM base w' bx sy st rs (addP ps x) rv pv bm) ∧ Below base w w' ∧ ∀ g t cs, Blk w g t cs → t ≠ 85 → t ≠ 88 → Blk w' g t cs
set_option maxHeartbeats 4000000 in
set_option maxRecDepth 20000 in
theorem numberM_c (base : Nat) (w : World) (bx : Nat) (sy st : Int) (rs : List RuleD) (ps : List MP) (x : MP) (rv pv : Value) (bm : Nat) (h : PlM base w bx sy st rs ps rv pv bm) (hb : base ≤ w.heap.size) (hn : ps.length ≤ 100000) (hs : SmM x) :
    Calls Tryz.prog 98 #[.pointer (some ⟨bx, 0, none⟩), x.v] w (NumM base w bx sy st rs ps x rv bm) := by
  have hk := mpKey x hs
  obtain ⟨W, hW⟩ : ∃ W, W = w.alloc (.cells #[.int .i64 x.k, .int .i64 x.a, .int .i64 x.t, .int .i64 x.c, .int .i64 x.f0, .int .i64 x.f1, .int .i64 x.f2, .int .i64 x.d] 88) := ⟨_, rfl⟩
  have hXW : Ext w W := by rw [hW]; exact Ext.alloc _ _
  have bX : Blk W w.heap.size 88 #[.int .i64 x.k, .int .i64 x.a, .int .i64 x.t, .int .i64 x.c, .int .i64 x.f0, .int .i64 x.f1, .int .i64 x.f2, .int .i64 x.d] := by rw [hW]; exact Blk.new _ _ _ _ rfl
  have H := h.ext hXW
  have hlook := fun d os => (H.ext (below_regrown W d os)).tbl.lookup2 mpTy x hk
  simp only [MP.v] at hlook ⊢
  obtain ⟨Ap, cp, rfl, hp1, hp2, _⟩ := (ownsRow_row h.places).form
  have k4 := H.blk.cell 4
  have x0 := bX.cell 0
  have x1 := bX.cell 1
  have x2 := bX.cell 2
  have x3 := bX.cell 3
  have x4 := bX.cell 4
  have x5 := bX.cell 5
  have x6 := bX.cell 6
  have x7 := bX.cell 7
  simp only [List.getElem?_toArray, List.getElem?_cons_zero, List.getElem?_cons_succ] at k4 x0 x1 x2 x3 x4 x5 x6 x7
  have d4 := cellR k4
  have y0 := cellR x0
  have y1 := cellR x1
  have y2 := cellR x2
  have y3 := cellR x3
  have y4 := cellR x4
  have y5 := cellR x5
  have y6 := cellR x6
  have y7 := cellR x7
  by_cases hin : x ∈ ps
  · have hs : (numOf ps x).isSome = true := by simp [numOf, hin]
    rw [hs, idx_old hin] at hlook
    go_enter Tryz.func98, Tryz.ntmps98
    go_wp2_with fail
    rw [← hW]
    clear hW
    refine wp_region_ext (by kernel_rfl) (by kernel_rfl) ?_
    repeat (go_big_quiet_step (fail))
    refine wpQuiet_nil ?_
    intro w2 hx2
    go_wp2
    go_ret
    refine ⟨?_, ⟨.slice Ap ps.length cp, ?_⟩, ?_, fun g t cs hb _ _ => hb.ext (hXW.trans hx2)⟩
    · rw [addP_old hin]; rfl
    · rw [addP_old hin]; exact H.ext hx2
    · exact Below.mono (hXW.trans hx2) hb
  · have hs : (numOf ps x).isSome = false := by simp [numOf, hin]
    have hs0 : (numOf ps x).getD 0 = 0 := by simp [numOf, hin]
    rw [hs, hs0] at hlook
    go_enter Tryz.func98, Tryz.ntmps98
    go_wp2_with fail
    rw [← hW]
    clear hW
    refine wp_region_ext (by kernel_rfl) (by kernel_rfl) ?_
    repeat (go_big_quiet_step (fail))
    refine wpQuiet_nil ?_
    intro w2 hxw2
    have H2 := H.ext hxw2
    have X2 := bX.ext hxw2
    have hX2 := hXW.trans hxw2
    have c3 := H2.blk.cell 3
    have c4 := H2.blk.cell 4
    have x0 := X2.cell 0
    have x1 := X2.cell 1
    have x2 := X2.cell 2
    have x3 := X2.cell 3
    have x4 := X2.cell 4
    have x5 := X2.cell 5
    have x6 := X2.cell 6
    have x7 := X2.cell 7
    simp only [List.getElem?_toArray, List.getElem?_cons_zero, List.getElem?_cons_succ] at c3 c4 x0 x1 x2 x3 x4 x5 x6 x7
    go_wp2_with fail
    refine (sizeMp_c _ _ _ _ (ownsRow_row H2.places)).mono ?_
    rintro e w' ⟨rfl, rfl⟩
    have H3 := H2.ext (Ext.drew w2)
    obtain ⟨w3, hupd, htbl, hg3⟩ := H3.tbl.update mpTy MP.v_inj (by unfold maxLen; omega) x hk (ps.length : Int) (smallM_wf (by unfold smallM; omega))
    simp only [MP.v] at hupd
    have hnb : some bx ≠ some bm := by
      have := H3.tbl.ne_blk H3.blk
      simp; omega
    have B4 := H3.blk.kept hg3 hnb
    have R4 := own_kept H3.rules hg3 (H3.tbl.ne_row H3.rules)
    have P4 := own_kept H3.places hg3 (H3.tbl.ne_row H3.places)
    have X4 := X2.drew.kept hg3 (by have := H3.tbl.ne_blk X2.drew; simp; omega)
    have hb4 : Below base w w3 := (Below.mono (hX2.trans (Ext.drew w2)) hb).grown hg3 (by have := hX2.size; simp; omega) (fun b hb => by injection hb with hb; subst hb; exact H3.lowM)
    have hsz4 : base ≤ w3.heap.size := by have := hg3.size; have := hX2.size; simp at *; omega
    have KF : Hid (∀ g t cs, Blk w g t cs → Blk w3 g t cs) := by
      unfold Hid
      intro g t cs hg
      have hg2 := hg.ext (hX2.trans (Ext.drew w2))
      exact hg2.kept hg3 (by have := H3.tbl.ne_blk hg2; simp; omega)
    obtain ⟨i0, hi, hz0, hz1, hz2⟩ := info_parts mpInfo
    go_wp2
    go_still_tail 6, (by kernel_rfl)
    change wpList _ _ _ _ _ w2.drew
    generalize w2.drew = w2d at *
    clear x0 x1 x2 x3 x4 x5 x6 x7 c3 c4
    have c3 := B4.cell 3
    have x0 := X4.cell 0
    have x1 := X4.cell 1
    have x2 := X4.cell 2
    have x3 := X4.cell 3
    have x4 := X4.cell 4
    have x5 := X4.cell 5
    have x6 := X4.cell 6
    have x7 := X4.cell 7
    simp only [List.getElem?_toArray, List.getElem?_cons_zero, List.getElem?_cons_succ] at c3 x0 x1 x2 x3 x4 x5 x6 x7
    go_wp2
    have eA := (Ext.alloc w3 (.cells #[.int .i64 x.k, .int .i64 x.a, .int .i64 x.t, .int .i64 x.c, .int .i64 x.f0, .int .i64 x.f1, .int .i64 x.f2, .int .i64 x.d] 88)).trans (Ext.drew _)
    have B5 := B4.ext eA
    have R5 := OwnRules.ext R4 eA
    have P5 := ownsRow_ext P4 eA
    have T5 := htbl.ext eA
    have hb5 : Below base w (w3.alloc (.cells #[.int .i64 x.k, .int .i64 x.a, .int .i64 x.t, .int .i64 x.c, .int .i64 x.f0, .int .i64 x.f1, .int .i64 x.f2, .int .i64 x.d] 88)).drew := (hb4.alloc hsz4 _).drew
    have c3' := (B4.alloc (.cells #[.int .i64 x.k, .int .i64 x.a, .int .i64 x.t, .int .i64 x.c, .int .i64 x.f0, .int .i64 x.f1, .int .i64 x.f2, .int .i64 x.d] 88)).cell 3
    simp only [List.getElem?_toArray, List.getElem?_cons_zero, List.getElem?_cons_succ] at c3'
    have LX := H3.lowX
    have LM := H3.lowM
    clear hlook hupd hg3 d4 y0 y1 y2 y3 y4 y5 y6 y7 k4
    go_region_law ((refine step_append_lies _ (by rfl) _ _ _ (by rfl) base 88 i0 _ 8 64 Tryz.underlying82 hi hz0 hz1 hz2 rfl (by omega) _ _ (mvs ps) (by rfl) P5 ⟨w3.heap.size, 0, none⟩ 1 1 [.int .i64 x.k, .int .i64 x.a, .int .i64 x.t, .int .i64 x.c, .int .i64 x.f0, .int .i64 x.f1, .int .i64 x.f2, .int .i64 x.d] (by rfl) rfl (World.news_of_block (w := (w3.alloc (.cells #[.int .i64 x.k, .int .i64 x.a, .int .i64 x.t, .int .i64 x.c, .int .i64 x.f0, .int .i64 x.f1, .int .i64 x.f2, .int .i64 x.d] 88)).drew) (heap_alloc_new w3 _)) (by simp [Value.oneCell']) (by omega) (by unfold maxLen; omega) (by omega) (by simp; omega) (w3.heap.size + 1) (by simp) ?_; intro g cap w5 hown5 hg5 hat5 hlt5; have PS := PlM.added hin B5 R5 P5 T5 LX LM hown5 hg5; have B6 := Blk.apart B5 P5 (by decide) hg5; have hb6 := hb5.grown hg5 (by simp; omega) (fun b hb => (P5.lt b hb).1); have q3 := B6.cell 3; have f3 := B6.frozen 3; simp only [List.getElem?_toArray, List.getElem?_cons_zero, List.getElem?_cons_succ] at q3))
    all_goals
      try go_wp2
      go_ret
      refine ⟨?_, ⟨.slice (some ⟨g, 0, none⟩) (ps.length + 1) cap, ?_⟩, ?_, fun g' t cs hg' n1 n2 => ?_⟩
      · rw [idx_new hin]; rfl
      · rw [addP_new hin]; exact PS
      · exact hb6.setCell LX _
      · have b5 := Blk.apart ((KF.out g' t cs hg').ext eA) P5 n2 hg5
        exact b5.far (p := ⟨bx, 3, none⟩) (blk_ne b5 B6 n1) _
end Go.Proofs.YtfghojbbofobeaaGreatDoor
end
section
set_option linter.unusedSimpArgs false
set_option linter.unusedVariables false
namespace Go.Proofs.YtfghojbbofobeaaGreatDoor
open Go Go.RowKit Go.Proofs Go.Maps
set_option maxHeartbeats 400000
def weaveB (m : MultiD) : Option (List MP × List RuleD) := bld (actW m) mp0 (2 * m.sy).toNat
def BuildM (w : World) (m : MultiD) (e : Ending) (w' : World) : Prop :=
  ((weaveB m = none ∧ e = .returned (.tuple #[.pointer none, .bool false])) ∨
    ∃ s bx bm rv pv, weaveB m = some s ∧ e = .returned (.tuple #[.pointer (some ⟨bx, 0, none⟩), .bool true]) ∧ PlM w.heap.size w' bx (2 * m.sy) s.1.length s.2 s.1 rv pv bm ∧ (∀ p ∈ s.1, WOk m p) ∧ 1 ≤ s.1.length ∧ s.1.length ≤ 1000) ∧ Ext w w'
/-- How the building stands in memory. -/
structure InW (w : World) (m : MultiD) (N bx bm : Nat) (s : List MP × List RuleD) (rv pv : Value) (wr : World) : Prop where
  st : PlM w.heap.size wr bx (N : Int) 0 s.2 s.1 rv pv bm
  below : Below w.heap.size w wr
  ok : ∀ p ∈ s.1, WOk m p
theorem InW.ext {w : World} {m : MultiD} {N bx bm : Nat} {s : List MP × List RuleD} {rv pv : Value} {wr wr' : World} (h : InW w m N bx bm s rv pv wr) (he : Ext wr wr') : InW w m N bx bm s rv pv wr' :=
  ⟨h.st.ext he, Ext.trans h.below he, h.ok⟩
theorem PlM.ruled {base : Nat} {w3 w5 : World} {bx : Nat} {sy st : Int} {rs : List RuleD} {ps : List MP} {rv pv v' : Value} {bm : Nat} {r : RuleD} (h : PlM base w3 bx sy st rs ps rv pv bm)
    (hown : w5.ownsRow base 150 3 v' (rs.length + 1) (rvs rs ++ [.int .i64 r.w, .int .i64 r.m, .int .i64 r.n])) (hg : w3.grownBy w5 rv.ownBlock) :
    PlM base (w5.setCell ⟨bx, 2, none⟩ v') bx sy st (rs ++ [r]) ps v' pv bm := by
  have B5 := Blk.apart h.blk h.rules (by decide) hg
  have P5 := World.ownsRow.kept h.places hg (own_ne h.places h.rules (by decide))
  have T5 := h.tbl.kept hg (h.tbl.ne_row h.rules)
  have hgs := grownBy_setCell w5 ⟨bx, 2, none⟩ v'
  refine ⟨B5.set_ 2 v', ?_, own_kept P5 hgs (blk_ne_row B5 P5 (by decide)), T5.setCell (a := ⟨bx, 2, none⟩) (T5.ne_blk B5) v', h.lowX, h.lowM⟩
  have := own_kept hown hgs (blk_ne_row B5 hown (by decide))
  unfold OwnRules
  rw [rvs_append]
  simpa [rvs] using this
theorem PlM.store {base : Nat} {w6 : World} {bx : Nat} {sy st : Int} {rs : List RuleD} {ps : List MP} {rv pv : Value} {bm : Nat} (h : PlM base w6 bx sy st rs ps rv pv bm) {g : Nat} {cs : Array Value} (hb : Blk w6 g 150 cs)
    (hne : ∀ k, rv.ownBlock = some k → k ≠ g) {p : Addr} (hp : p.block = g) (u : Value) : PlM base (w6.setCell p u) bx sy st rs ps rv pv bm := by
  subst hp
  have hgs := grownBy_setCell w6 p u
  exact ⟨h.blk.far (blk_ne h.blk hb (by decide)) _, ownsRow_far h.rules hne _, own_kept h.places hgs (blk_ne_row hb h.places (by decide)), h.tbl.setCell (h.tbl.ne_blk hb) _, h.lowX, h.lowM⟩
theorem InW.ruled {w : World} {m : MultiD} {N bx bm : Nat} {s : List MP × List RuleD} {rv pv v' : Value} {wr w5 : World} {r : RuleD} (h : InW w m N bx bm s rv pv wr)
    (hown : w5.ownsRow w.heap.size 150 3 v' (s.2.length + 1) (rvs s.2 ++ [.int .i64 r.w, .int .i64 r.m, .int .i64 r.n])) (hg : wr.grownBy w5 rv.ownBlock) :
    InW w m N bx bm (s.1, s.2 ++ [r]) v' pv (w5.setCell ⟨bx, 2, none⟩ v') :=
  ⟨h.st.ruled hown hg, (Below.grown h.below hg (Ext.size h.below) (fun b hb => (World.ownsRow.lt h.st.rules b hb).1)).setCell h.st.lowX _, h.ok⟩
theorem mvs_get (ps : List MP) (i : Nat) {p : MP} (h : ps[i]? = some p) (j : Nat) (hj : j < 8) : (mvs ps)[i * 8 + j]? = [.int .i64 p.k, .int .i64 p.a, .int .i64 p.t, .int .i64 p.c, .int .i64 p.f0, .int .i64 p.f1, .int .i64 p.f2, .int .i64 p.d][j]? := by
  induction ps generalizing i with
  | nil => simp at h
  | cons r ps ih =>
    cases i with
    | zero =>
      simp at h; subst h
      show ([.int .i64 r.k, .int .i64 r.a, .int .i64 r.t, .int .i64 r.c, .int .i64 r.f0, .int .i64 r.f1, .int .i64 r.f2, .int .i64 r.d] ++ mvs ps)[0 * 8 + j]? = _
      rw [List.getElem?_append_left (by simp; omega)]
      simp
    | succ i =>
      have := ih i (by simpa using h)
      show ([.int .i64 r.k, .int .i64 r.a, .int .i64 r.t, .int .i64 r.c, .int .i64 r.f0, .int .i64 r.f1, .int .i64 r.f2, .int .i64 r.d] ++ mvs ps)[(i + 1) * 8 + j]? = _
      rw [List.getElem?_append_right (by simp; omega), ← this]
      congr 1
      simp
      omega
theorem placesM_at {base : Nat} {w : World} {A : Option Addr} {c : Nat} {ps : List MP} (h : w.ownsRow base 88 8 (.slice A ps.length c) ps.length (mvs ps)) {k : Nat} {p : MP} (hp : ps[k]? = some p) :
    ∃ g, A = some ⟨g, 0, none⟩ ∧ base ≤ g ∧ g < w.heap.size ∧ ∀ j, j < 8 → w.cell? ⟨g, k * 8 + j, none⟩ = [.int .i64 p.k, .int .i64 p.a, .int .i64 p.t, .int .i64 p.c, .int .i64 p.f0, .int .i64 p.f1, .int .i64 p.f2, .int .i64 p.d][j]? := by
  have hk : k < ps.length := (List.getElem?_eq_some_iff.1 hp).1
  obtain ⟨g, rfl, hb, hl⟩ := own_at h (by omega)
  obtain ⟨b', off, e, hc⟩ := Row.at (ownsRow_row h) hk
  injection e with e
  injection e with e1 e2
  subst e1 e2
  refine ⟨g, rfl, hb, hl, fun j hj => ?_⟩
  have h0 := hc (k * 8 + j) (by omega)
  rw [Nat.zero_add] at h0
  rw [h0, mvs_get ps k hp j hj]
set_option maxHeartbeats 4000000 in
set_option maxRecDepth 20000 in
theorem buildW_c (w : World) (b : Nat) (m : MultiD) (hM : Weav w b m) (hm : multiOk m = true) :
    Calls Tryz.prog 62 #[.int .i64 (2 * m.sy), mp0.v, .func (.func 63) #[.pointer (some ⟨b, 0, none⟩)] #[]] w (BuildM w m) := by
  obtain ⟨⟨tp1, tp2⟩, ⟨s1, s2⟩, ⟨s3, s4⟩, hl, _⟩ := multi_all hm
  obtain ⟨N, hN⟩ : ∃ N : Nat, (2 * m.sy) = N := ⟨(2 * m.sy).toNat, by omega⟩
  have HB : Hid (weaveB m = bld (actW m) mp0 N) := by unfold Hid weaveB; rw [hN]; rfl
  rw [hN]
  have n3 : 3 ≤ N := by omega
  have n6 : N ≤ 6 := by omega
  have HN := Lib.hid hN
  clear hN hl
  have hmm := @run_makeMap Tryz.prog
  obtain ⟨W, hW⟩ : ∃ W, W = ((w.alloc (.cells #[.int .i64 0, .int .i64 0, .int .i64 0, .int .i64 0, .int .i64 0, .int .i64 0, .int .i64 0, .int .i64 0] 88)).alloc (.map #[] 0)).alloc (.cells #[.int .i64 (N : Int), .int .i64 0, .slice none 0 0, .slice none 0 0, .map (some (w.heap.size + 1))] 85) := ⟨_, rfl⟩
  have hXW : Ext w W := by rw [hW]; exact ((Ext.alloc _ _).trans (Ext.alloc _ _)).trans (Ext.alloc _ _)
  have hT := (Tbl.made Tryz.prog 88 2 MP.v (w.alloc (.cells #[.int .i64 0, .int .i64 0, .int .i64 0, .int .i64 0, .int .i64 0, .int .i64 0, .int .i64 0, .int .i64 0] 88))).ext (Ext.alloc _ (.cells #[.int .i64 (N : Int), .int .i64 0, .slice none 0 0, .slice none 0 0, .map (some (w.heap.size + 1))] 85))
  rw [← hW] at hT
  have P0 : PlM w.heap.size W (w.heap.size + 1 + 1) (N : Int) 0 [] [] (.slice none 0 0) (.slice none 0 0) (w.heap.size + 1) := by
    refine ⟨by rw [hW]; exact Blk.new _ _ _ _ (by simp), World.ownsRow_nil .., World.ownsRow_nil .., ?_, by omega, by omega⟩
    rw [numOf_nil]
    simpa using hT
  have bF : Blk W w.heap.size 88 #[.int .i64 0, .int .i64 0, .int .i64 0, .int .i64 0, .int .i64 0, .int .i64 0, .int .i64 0, .int .i64 0] := by rw [hW]; exact ((Blk.new _ _ _ _ rfl).alloc _).alloc _
  simp only [mp0, MP.v]
  go_enter Tryz.func62, Tryz.ntmps62
  go_wp2_with fail
  rw [← hW]
  have sm0 : SmM mp0 := by simp [SmM, smallM, mp0]
  refine (numberM_c w.heap.size W (w.heap.size + 1 + 1) N 0 [] [] mp0 _ _ (w.heap.size + 1) P0 hXW.size (by simp) sm0).mono ?_
  rintro e w1 ⟨rfl, ⟨pv1, P1⟩, hb1, _⟩
  have ep : addP [] mp0 = [mp0] := by simp [addP]
  rw [ep] at P1
  have hB1 : Below w.heap.size w w1 := Below.trans hXW hb1
  have HI : InW w m N (w.heap.size + 1 + 1) (w.heap.size + 1) ([mp0], []) (.slice none 0 0) pv1 w1 := ⟨P1, hB1, by
    intro p hp
    simp at hp
    subst hp
    exact lookP_ok hm (by omega) (by omega)⟩
  clear P1 hb1 hB1 P0 bF hT ep
  generalize w.heap.size + 1 + 1 = bx at *
  generalize w.heap.size + 1 = bm at *
  clear hW
  obtain ⟨i0, hi, hz0, hz1, hz2⟩ := info_parts ruleInfo
  go_wp2
  go_loopw [9] (fun i wr => ∃ (k : Nat) (s : List MP × List RuleD) (rv pv : Value), i = .int .i64 k ∧ BldAt (actW m) mp0 N k s ∧ InW w m N bx bm s rv pv wr) (fun i _ => 1001 - (intOf i).toNat)
  case atStart => exact ⟨0, ([mp0], []), _, _, rfl, BldAt.start _ _ _, HI⟩
  case round =>
    clear HI
    obtain ⟨k, s, rv, pv, rfl, hB, inv⟩ := hrel
    have hk1 := hB.le
    have hk2 := hB.most
    obtain ⟨Ap, cp, rfl, _, _, _⟩ := (ownsRow_row inv.st.places).form
    have c3 := inv.st.blk.cell 3
    simp only [List.getElem?_toArray, List.getElem?_cons_zero, List.getElem?_cons_succ] at c3
    by_cases hlt : k < s.1.length
    · obtain ⟨p, hp⟩ : ∃ p, s.1[k]? = some p := ⟨s.1[k], List.getElem?_eq_getElem hlt⟩
      have hpo : WOk m p := inv.ok p (List.mem_of_getElem? hp)
      go_wp2
      go_loopw [31] (fun i wr' => ∃ (j : Nat) (rv pv : Value), j ≤ N ∧ i = .int .i64 j ∧ InW w m N bx bm (rowTo (actW m) p s j) rv pv wr') (fun i _ => N - (intOf i).toNat)
      case atStart => exact ⟨0, _, _, Nat.zero_le _, rfl, inv⟩
      case round =>
        clear inv c3
        obtain ⟨j, rv, pv, hj, rfl, inv⟩ := hrel
        by_cases hjn : j < N
        · go_wp2_with fail
          refine (noRule_c _).mono ?_
          rintro e w2 ⟨rfl, hx2⟩
          have fv0 : (0 : Int) ≤ (j : Int) := by omega
          have fv1 : (j : Int) < 2 * m.sy := by have := HN.out; omega
          have hpj : (rowTo (actW m) p s j).1[k]? = some p := by
            obtain ⟨t, ht⟩ := rowTo_prefix (actW m) p s j
            rw [← ht, List.getElem?_append_left hlt]; exact hp
          have hlen : (rowTo (actW m) p s j).1.length ≤ 1006 ∧ (rowTo (actW m) p s j).2.length ≤ 6600 := by
            have h1 := rowTo_length (actW m) p s j
            have h2 := hB.rules
            have h3 : k * N ≤ 1000 * 6 := Nat.mul_le_mul (by omega) n6
            omega
          obtain ⟨hlen1, htl⟩ := hlen
          have HRT : Hid (rowTo (actW m) p s (j + 1) = symStep (actW m) p (rowTo (actW m) p s j) j) := rfl
          have HRO : Hid (∀ y ∈ (rowTo (actW m) p s (j + 1)).1, WOk m y) := rowTo_all (N := N) (fun y hy => inv.ok y (List.IsPrefix.subset (rowTo_prefix (actW m) p s j) hy)) (fun n hn hno => actW_ok hm hpo (by omega) (by have := HN.out; omega) hno) (j + 1) (by omega)
          generalize rowTo (actW m) p s j = t at *
          have hkt : k < t.1.length := (List.getElem?_eq_some_iff.1 hpj).1
          have inv2 := inv.ext hx2
          obtain ⟨V, hV⟩ : ∃ V, V = w2.alloc (.cells #[.int .i64 0, .int .i64 0, .int .i64 (-1)] 150) := ⟨_, rfl⟩
          have hXV : Ext w2 V := by rw [hV]; exact Ext.alloc _ _
          have inv3 := inv2.ext hXV
          have bR : Blk V w2.heap.size 150 #[.int .i64 0, .int .i64 0, .int .i64 (-1)] := by rw [hV]; exact Blk.new _ _ _ _ rfl
          obtain ⟨Ap, cp, rfl, _, _, _⟩ := (ownsRow_row inv3.st.places).form
          obtain ⟨gp, rfl, hgp1, hgp2, ac⟩ := placesM_at inv3.st.places hpj
          have a0 := ac 0 (by omega)
          have a1 := ac 1 (by omega)
          have a2 := ac 2 (by omega)
          have a3 := ac 3 (by omega)
          have a4 := ac 4 (by omega)
          have a5 := ac 5 (by omega)
          have a6 := ac 6 (by omega)
          have a7 := ac 7 (by omega)
          have c3 := inv3.st.blk.cell 3
          simp only [List.getElem?_toArray, List.getElem?_cons_zero, List.getElem?_cons_succ, Nat.add_zero] at c3 a0 a1 a2 a3 a4 a5 a6 a7
          rw [hV] at c3 a0 a1 a2 a3 a4 a5 a6 a7
          go_wp2_with fail
          rw [← hV]
          clear c3 a0 a1 a2 a3 a4 a5 a6 a7 ac
          refine (wat_c b m p j V (hM.ext inv3.below) hm hpo fv0 fv1).mono ?_
          rintro e w3 ⟨rfl, hx3⟩
          have inv4 := inv3.ext hx3
          have bR4 := bR.ext hx3
          cases hno : (actW m p j).no with
          | true =>
            have HRT2 := Lib.hid (HRT.out.trans (symStep_no hno))
            rw [HRT2.out] at HRO
            clear HRT
            generalize actW m p j = a at *
            obtain ⟨aw, am, ⟨ak, aa, at_, ac, af0, af1, af2, ad⟩, ano⟩ := a
            simp only at hno
            subst hno
            obtain ⟨U, hU⟩ : ∃ U, U = w3.alloc (.cells #[.int .i64 aw, .int .i64 am, .int .i64 ak, .int .i64 aa, .int .i64 at_, .int .i64 ac, .int .i64 af0, .int .i64 af1, .int .i64 af2, .int .i64 ad, .bool true] 164) := ⟨_, rfl⟩
            have hXU : Ext w3 U := by rw [hU]; exact Ext.alloc _ _
            have inv5 := inv4.ext hXU
            have bR5 := bR4.ext hXU
            simp only [ActM]
            go_wp2_with fail
            rw [← hU]
            clear hU

            have hrl : OwnRules w.heap.size U rv t.2 := inv5.st.rules
            obtain ⟨Ar, cr, rfl, _, _, _⟩ := (ownsRow_row hrl).form
            have eA := (Ext.alloc U (.cells #[.int .i64 0, .int .i64 0, .int .i64 (-1)] 150)).trans (Ext.drew _)
            have I6 := inv5.ext eA
            have c2' := (inv5.st.blk.alloc (.cells #[.int .i64 0, .int .i64 0, .int .i64 (-1)] 150)).cell 2
            have c2 := inv5.st.blk.cell 2
            have q0 := bR5.cell 0
            have q1 := bR5.cell 1
            have q2 := bR5.cell 2
            simp only [List.getElem?_toArray, List.getElem?_cons_zero, List.getElem?_cons_succ] at c2 c2' q0 q1 q2
            have hsU := Ext.size inv5.below
            go_region_law ((refine step_append_lies _ (by rfl) _ _ _ (by rfl) w.heap.size 150 i0 _ 3 24 Tryz.underlying59 hi hz0 hz1 hz2 rfl (by omega) _ _ (rvs t.2) (by first | rfl | simp [Act.eval, Act.put]) (OwnRules.ext hrl eA) ⟨(U).heap.size, 0, none⟩ 1 1 [.int .i64 0, .int .i64 0, .int .i64 (-1)] (by first | rfl | simp [Act.eval, Act.put]) rfl (World.news_of_block (w := ((U).alloc (.cells #[.int .i64 0, .int .i64 0, .int .i64 (-1)] 150)).drew) (heap_alloc_new (U) _)) (by simp [Value.oneCell']) (by omega) (by unfold maxLen; omega) (by omega) (by simp; omega) ((U).heap.size + 1) (by simp) ?_; intro g cap w7 hown7 hg7 hat7 hlt7; have I7 := I6.ruled (r := ⟨0, 0, (-1)⟩) hown7 hg7; have B7 := Blk.apart I6.st.blk I6.st.rules (by decide) hg7; have z2 := B7.cell 2; have f2 := B7.frozen 2; simp only [List.getElem?_toArray, List.getElem?_cons_zero, List.getElem?_cons_succ] at z2))
            all_goals
              try go_wp2
              go_roundw
              case rel => exact ⟨j + 1, _, _, by omega, by go_num, by rw [HRT2.out]; exact I7⟩
              case measure => simp [intOf]; omega
          | false =>
            have HRT2 := Lib.hid (HRT.out.trans (symStep_yes hno))
            have hap := actW_ok hm hpo fv0 fv1 hno
            have sm1 : SmM (actW m p j).p := hap.small hm
            rw [HRT2.out] at HRO
            clear HRT
            generalize actW m p j = a at *
            obtain ⟨aw, am, ap, ano⟩ := a
            simp only at hno
            subst hno
            obtain ⟨U, hU⟩ : ∃ U, U = w3.alloc (.cells #[.int .i64 aw, .int .i64 am, .int .i64 ap.k, .int .i64 ap.a, .int .i64 ap.t, .int .i64 ap.c, .int .i64 ap.f0, .int .i64 ap.f1, .int .i64 ap.f2, .int .i64 ap.d, .bool false] 164) := ⟨_, rfl⟩
            have hXU : Ext w3 U := by rw [hU]; exact Ext.alloc _ _
            have inv5 := inv4.ext hXU
            have bR5 := bR4.ext hXU
            have bA5 : Blk U w3.heap.size 164 #[.int .i64 aw, .int .i64 am, .int .i64 ap.k, .int .i64 ap.a, .int .i64 ap.t, .int .i64 ap.c, .int .i64 ap.f0, .int .i64 ap.f1, .int .i64 ap.f2, .int .i64 ap.d, .bool false] := by rw [hU]; exact Blk.new _ _ _ _ rfl
            simp only [ActM]
            go_wp2_with fail
            rw [← hU]
            clear hU
            have a0 := bA5.cell 0
            have a1 := bA5.cell 1
            have a2 := bA5.cell 2
            have a3 := bA5.cell 3
            have a4 := bA5.cell 4
            have a5 := bA5.cell 5
            have a6 := bA5.cell 6
            have a7 := bA5.cell 7
            have a8 := bA5.cell 8
            have a9 := bA5.cell 9
            simp only [List.getElem?_toArray, List.getElem?_cons_zero, List.getElem?_cons_succ] at a0 a1 a2 a3 a4 a5 a6 a7 a8 a9
            have Id := inv5.ext (Ext.drew U)
            have hsU := Ext.size Id.below
            have hnum := numberM_c w.heap.size U.drew bx N 0 t.2 t.1 ap rv _ bm Id.st hsU (by omega) sm1
            simp only [MP.v] at hnum
            go_region_law ((go_simp; go_at_call 98; ((with_reducible refine hnum.mono ?_)); rintro e w6 ⟨rfl, ⟨pv6, P6⟩, hb6, hk6⟩; have bA6 := hk6 _ _ _ bA5.drew (by decide) (by decide); have bR6 := hk6 _ _ _ bR5.drew (by decide) (by decide); have d0 := bA6.cell 0; have d1 := bA6.cell 1; have e0 := bR6.cell; have f0 := bR6.frozen; simp only [List.getElem?_toArray, List.getElem?_cons_zero, List.getElem?_cons_succ] at d0 d1))
            all_goals
              obtain ⟨U7, hU7⟩ : ∃ U7, U7 = ((w6.setCell ⟨w2.heap.size, 0, none⟩ (.int .i64 aw)).setCell ⟨w2.heap.size, 1, none⟩ (.int .i64 am)).setCell ⟨w2.heap.size, 2, none⟩ (.int .i64 ((addP t.1 ap).idxOf ap : Nat)) := ⟨_, rfl⟩
              have bR7 : Blk U7 w2.heap.size 150 #[.int .i64 aw, .int .i64 am, .int .i64 ((addP t.1 ap).idxOf ap : Nat)] := by rw [hU7]; exact ((bR6.set_ 0 _).set_ 1 _).set_ 2 _
              have I7' : InW w m N bx bm (addP t.1 ap, t.2) rv pv6 U7 := by
                have hlow : w.heap.size ≤ w2.heap.size := Ext.size inv2.below
                have hne : ∀ k, rv.ownBlock = some k → k ≠ w2.heap.size := fun k hk => by
                  have h1 := (World.ownsRow.lt inv.st.rules k hk).2
                  have h2 := hx2.size
                  omega
                rw [hU7]
                have q1 := P6.store bR6 hne (p := ⟨w2.heap.size, 0, none⟩) rfl (.int .i64 aw)
                have q2 := q1.store (bR6.set_ 0 _) hne (p := ⟨w2.heap.size, 1, none⟩) rfl (.int .i64 am)
                have q3 := q2.store ((bR6.set_ 0 _).set_ 1 _) hne (p := ⟨w2.heap.size, 2, none⟩) rfl (.int .i64 ((addP t.1 ap).idxOf ap : Nat))
                exact ⟨q3, (((Below.trans Id.below hb6).setCell hlow _).setCell hlow _).setCell hlow _, HRO.out⟩
              rw [← hU7]
              clear hU7 e0 f0 d0 d1 hnum
              try go_wp2_with fail
              have hrl : OwnRules w.heap.size U7 rv t.2 := I7'.st.rules
              obtain ⟨Ar, cr, rfl, _, _, _⟩ := (ownsRow_row hrl).form
              have eA := (Ext.alloc U7 (.cells #[.int .i64 aw, .int .i64 am, .int .i64 ((addP t.1 ap).idxOf ap : Nat)] 150)).trans (Ext.drew _)
              have I6 := I7'.ext eA
              have c2' := (I7'.st.blk.alloc (.cells #[.int .i64 aw, .int .i64 am, .int .i64 ((addP t.1 ap).idxOf ap : Nat)] 150)).cell 2
              have c2 := I7'.st.blk.cell 2
              have q0 := bR7.cell 0
              have q1 := bR7.cell 1
              have q2 := bR7.cell 2
              simp only [List.getElem?_toArray, List.getElem?_cons_zero, List.getElem?_cons_succ] at c2 c2' q0 q1 q2
              have hsU := Ext.size I7'.below
              go_region_law ((refine step_append_lies _ (by rfl) _ _ _ (by rfl) w.heap.size 150 i0 _ 3 24 Tryz.underlying59 hi hz0 hz1 hz2 rfl (by omega) _ _ (rvs t.2) (by first | rfl | simp [Act.eval, Act.put]) (OwnRules.ext hrl eA) ⟨(U7).heap.size, 0, none⟩ 1 1 [.int .i64 aw, .int .i64 am, .int .i64 ((addP t.1 ap).idxOf ap : Nat)] (by first | rfl | simp [Act.eval, Act.put]) rfl (World.news_of_block (w := ((U7).alloc (.cells #[.int .i64 aw, .int .i64 am, .int .i64 ((addP t.1 ap).idxOf ap : Nat)] 150)).drew) (heap_alloc_new (U7) _)) (by simp [Value.oneCell']) (by omega) (by unfold maxLen; omega) (by omega) (by simp; omega) ((U7).heap.size + 1) (by simp) ?_; intro g cap w7 hown7 hg7 hat7 hlt7; have I7 := I6.ruled (r := ⟨aw, am, ((addP t.1 ap).idxOf ap : Nat)⟩) hown7 hg7; have B7 := Blk.apart I6.st.blk I6.st.rules (by decide) hg7; have z2 := B7.cell 2; have f2 := B7.frozen 2; simp only [List.getElem?_toArray, List.getElem?_cons_zero, List.getElem?_cons_succ] at z2))
              all_goals
                try go_wp2
                go_roundw
                case rel => exact ⟨j + 1, _, _, by omega, by go_num, by rw [HRT2.out]; exact I7⟩
                case measure => simp [intOf]; omega
        · have hjN : j = N := by omega
          subst hjN
          obtain ⟨Ap, cp, rfl, _, _, _⟩ := (ownsRow_row inv.st.places).form
          have c3 := inv.st.blk.cell 3
          simp only [List.getElem?_toArray, List.getElem?_cons_zero, List.getElem?_cons_succ] at c3
          have HOK := Lib.hid inv.ok
          by_cases hmost : (rowTo (actW m) p s j).1.length ≤ 1000
          · have HBN := Lib.hid (hB.step hlt hp hmost)
            clear hB
            generalize rowTo (actW m) p s j = t at *
            go_wp2
            go_roundw
            case rel => exact ⟨k + 1, t, rv, _, by go_num, HBN.out, inv⟩
            case measure => simp [intOf]; omega
          · have HBN := Lib.hid (hB.fails hlt hp (by omega))
            clear hB
            generalize rowTo (actW m) p s j = t at *
            go_wp2
            go_ret2
            exact ⟨.inl ⟨HB.out.trans HBN.out, rfl⟩, inv.below⟩
    · have HBN := Lib.hid (hB.ends hlt)
      have one := hB.one
      clear hB
      have f1 := inv.st.blk.frozen 1
      have c1 := inv.st.blk.cell 1
      simp only [List.getElem?_toArray, List.getElem?_cons_zero, List.getElem?_cons_succ] at c1
      go_wp2_with fail
      refine (sizeMp_c _ _ _ _ (ownsRow_row inv.st.places)).mono ?_
      rintro e w' ⟨rfl, rfl⟩
      go_wp2
      go_ret2
      have hgs := grownBy_setCell wr ⟨bx, 1, none⟩ (.int .i64 (s.1.length : Nat))
      refine ⟨.inr ⟨s, bx, bm, rv, _, HB.out.trans HBN.out, rfl, ⟨?_, own_kept inv.st.rules hgs (blk_ne_row inv.st.blk inv.st.rules (by decide)), own_kept inv.st.places hgs (blk_ne_row inv.st.blk inv.st.places (by decide)), inv.st.tbl.setCell (a := ⟨bx, 1, none⟩) (inv.st.tbl.ne_blk inv.st.blk) _, inv.st.lowX, inv.st.lowM⟩, inv.ok, one, hk2⟩, Below.setCell inv.below inv.st.lowX _⟩
      have := inv.st.blk.set_ 1 (.int .i64 (s.1.length : Nat))
      rw [HN.out]
      exact this
end Go.Proofs.YtfghojbbofobeaaGreatDoor
end
section
set_option linter.unusedSimpArgs false
set_option linter.unusedVariables false
namespace Go.Proofs.YtfghojbbofobeaaGreatDoor
open Go Go.RowKit Go.Proofs
set_option maxHeartbeats 400000
def BuildS (w0 : World) (m : MultiD) (bk b : Nat) (e : Ending) (w' : World) : Prop :=
  ((weaveB m = none ∧ e = .returned (.bool false)) ∨
    ∃ s rv pv vs, weaveB m = some s ∧ e = .returned (.bool true) ∧ MkM w0.heap.size w' bk b m (2 * m.sy) s.1.length s.2 s.1 rv pv vs ∧ (∀ p ∈ s.1, WOk m p) ∧ 1 ≤ s.1.length ∧ s.1.length ≤ 1000) ∧ Ext w0 w'
/-- How the building stands in memory. -/
structure InZ (w0 : World) (m : MultiD) (N bk b : Nat) (s : List MP × List RuleD) (rv pv : Value) (vs : List Value) (wr : World) : Prop where
  st : MkM w0.heap.size wr bk b m (N : Int) 0 s.2 s.1 rv pv vs
  below : Ext w0 wr
  ok : ∀ p ∈ s.1, WOk m p
theorem InZ.ext {w0 : World} {m : MultiD} {N bk b : Nat} {s : List MP × List RuleD} {rv pv : Value} {vs : List Value} {wr wr' : World} (h : InZ w0 m N bk b s rv pv vs wr) (he : Ext wr wr') : InZ w0 m N bk b s rv pv vs wr' :=
  ⟨h.st.ext he, Ext.trans h.below he, h.ok⟩
theorem InZ.ruled {w0 : World} {m : MultiD} {N bk b : Nat} {s : List MP × List RuleD} {rv pv v' : Value} {vs : List Value} {wr w5 : World} {r : RuleD} (h : InZ w0 m N bk b s rv pv vs wr)
    (hown : w5.ownsRow w0.heap.size 150 3 v' (s.2.length + 1) (rvs s.2 ++ [.int .i64 r.w, .int .i64 r.m, .int .i64 r.n])) (hg : wr.grownBy w5 rv.ownBlock) :
    InZ w0 m N bk b (s.1, s.2 ++ [r]) v' pv vs (w5.setCell ⟨bk, 6, none⟩ v') :=
  ⟨h.st.ruled hown hg, (Below.grown h.below hg (Ext.size h.below) (fun b hb => (World.ownsRow.lt h.st.rules b hb).1)).setCell h.st.low _, h.ok⟩
theorem InZ.added {w0 : World} {m : MultiD} {N bk b : Nat} {s : List MP × List RuleD} {rv pv v' u : Value} {vs : List Value} {wr w5 : World} {x : MP} (h : InZ w0 m N bk b s rv pv vs wr) (hu : OwnInts w0.heap.size wr u (encM m x)) (hx : WOk m x)
    (hown : w5.ownsRow w0.heap.size 44 1 v' (s.1.length + 1) (vs ++ [u])) (hg : wr.grownBy w5 pv.ownBlock) :
    InZ w0 m N bk b (s.1 ++ [x], s.2) rv v' (vs ++ [u]) (w5.setCell ⟨bk, 3, none⟩ v') :=
  ⟨h.st.added hu hown hg, (Below.grown h.below hg (Ext.size h.below) (fun b hb => (World.ownsRow.lt h.st.places b hb).1)).setCell h.st.low _, fun p hp => by
    rcases List.mem_append.1 hp with h' | h'
    · exact h.ok p h'
    · simp at h'; subst h'; exact hx⟩
set_option maxHeartbeats 40000000 in
set_option maxRecDepth 20000 in
theorem buildS_c (w0 w : World) (bk b : Nat) (m : MultiD) (g L0 cL : Nat) (hM : MulAt w0 b m) (h0 : Ext w0 w) (hk : w0.heap.size ≤ bk) (hB : Blk w bk 63 #[.pointer none, .pointer (some ⟨b, 0, none⟩), .int .i64 2, .slice none 0 0, .int .i64 0, .int .i64 0, .slice none 0 0])
    (hf : OwnInts w0.heap.size w (.slice (some ⟨g, 0, none⟩) L0 cL) (encM m mp0)) (hL0 : L0 = (encM m mp0).length) (hm : multiOk m = true) :
    Calls Tryz.prog 48 #[.pointer (some ⟨bk, 0, none⟩), .int .i64 (2 * m.sy), .slice (some ⟨g, 0, none⟩) L0 cL] w (BuildS w0 m bk b) := by
  obtain ⟨⟨tp1, tp2⟩, ⟨s1, s2⟩, ⟨s3, s4⟩, hl, _⟩ := multi_all hm
  obtain ⟨N, hN⟩ : ∃ N : Nat, 2 * m.sy = N := ⟨(2 * m.sy).toNat, by omega⟩
  have HB : Hid (weaveB m = bld (actW m) mp0 N) := by unfold Hid weaveB; rw [hN]; rfl
  rw [hN]
  have n3 : 3 ≤ N := by omega
  have n6 : N ≤ 6 := by omega
  have HN := Lib.hid hN
  clear hN hl
  clear hL0
  have k0 := hB.cell
  have kf := hB.frozen
  have hbk := hB.lt
  have k1 := (hB.alloc (.cells #[.slice (some ⟨g, 0, none⟩) L0 cL] 44)).cell
  have kf1 := (hB.alloc (.cells #[.slice (some ⟨g, 0, none⟩) L0 cL] 44)).frozen
  obtain ⟨i0, hi, hz0, hz1, hz2⟩ := info_parts ruleInfo
  obtain ⟨j0, hjI, hy0, hy1, hy2⟩ := info_parts rowInfo
  go_enter Tryz.func48, Tryz.ntmps48
  go_wp2
  obtain ⟨W, hW⟩ : ∃ W, W = ((((((w.setCell ⟨bk, 3, none⟩ (.slice (some ⟨w.heap.size, 0, none⟩) 1 1)).setCell ⟨bk, 4, none⟩ (.int .i64 N)).setCell ⟨bk, 5, none⟩ (.int .i64 0)).setCell ⟨bk, 6, none⟩ (.slice (some ⟨w.heap.size + 1, 0, none⟩) 0 0)).alloc (.cells #[.slice (some ⟨g, 0, none⟩) L0 cL] 44)).alloc (.cells #[] 150)) := ⟨_, rfl⟩
  have hsw := Ext.size h0
  have HI : InZ w0 m N bk b ([mp0], []) (.slice (some ⟨w.heap.size + 1, 0, none⟩) 0 0) (.slice (some ⟨w.heap.size, 0, none⟩) 1 1) [.slice (some ⟨g, 0, none⟩) L0 cL] W := by
    have hne : ∀ k, (Value.slice (some ⟨g, 0, none⟩) L0 cL).ownBlock = some k → k ≠ bk := fun k hk e => by
      have := blk_ne_row hB hf (by decide)
      rw [hk, e] at this
      exact this rfl
    have f4 := ownsRow_far (ownsRow_far (ownsRow_far (ownsRow_far hf (p := ⟨bk, 3, none⟩) hne (.slice (some ⟨w.heap.size, 0, none⟩) 1 1)) (p := ⟨bk, 4, none⟩) hne (.int .i64 N)) (p := ⟨bk, 5, none⟩) hne (.int .i64 0)) (p := ⟨bk, 6, none⟩) hne (.slice (some ⟨w.heap.size + 1, 0, none⟩) 0 0)
    have b4 := (((hB.set_ 3 (.slice (some ⟨w.heap.size, 0, none⟩) 1 1)).set_ 4 (.int .i64 N)).set_ 5 (.int .i64 0)).set_ 6 (.slice (some ⟨w.heap.size + 1, 0, none⟩) 0 0)
    have x4 := ((((Ext.setCell h0 (p := ⟨bk, 3, none⟩) hk (.slice (some ⟨w.heap.size, 0, none⟩) 1 1)).setCell (p := ⟨bk, 4, none⟩) hk (.int .i64 N)).setCell (p := ⟨bk, 5, none⟩) hk (.int .i64 0)).setCell (p := ⟨bk, 6, none⟩) hk (.slice (some ⟨w.heap.size + 1, 0, none⟩) 0 0))
    have hs4 : ((((w.setCell ⟨bk, 3, none⟩ (.slice (some ⟨w.heap.size, 0, none⟩) 1 1)).setCell ⟨bk, 4, none⟩ (.int .i64 N)).setCell ⟨bk, 5, none⟩ (.int .i64 0)).setCell ⟨bk, 6, none⟩ (.slice (some ⟨w.heap.size + 1, 0, none⟩) 0 0)).heap.size = w.heap.size := by simp [World.setCell]
    generalize ((((w.setCell ⟨bk, 3, none⟩ (.slice (some ⟨w.heap.size, 0, none⟩) 1 1)).setCell ⟨bk, 4, none⟩ (.int .i64 N)).setCell ⟨bk, 5, none⟩ (.int .i64 0)).setCell ⟨bk, 6, none⟩ (.slice (some ⟨w.heap.size + 1, 0, none⟩) 0 0)) = w4 at *
    subst hW
    have ea := (Ext.alloc w4 (.cells #[.slice (some ⟨g, 0, none⟩) L0 cL] 44)).trans (Ext.alloc _ (.cells #[] 150))
    refine ⟨⟨b4.ext ea, ?_, ?_, fun i p hp => ?_, hk⟩, x4.trans ea, fun p hp => ?_⟩
    · have := World.ownsRow_made (base := w0.heap.size) (e := 150) (size := 3) (w4.alloc (.cells #[.slice (some ⟨g, 0, none⟩) L0 cL] 44)) #[] 0 (by simp; omega) (by unfold maxLen; omega) (by simp)
      simpa [OwnRules, rvs, hs4] using this
    · refine ⟨by simp, .inr ⟨w.heap.size, 1, #[.slice (some ⟨g, 0, none⟩) L0 cL], rfl, hsw, ?_, Nat.le_refl _, by unfold maxLen; omega, by simp, by simp⟩⟩
      exact ((Blk.new w4 w.heap.size 44 _ hs4).alloc _)
    · have h1 := (List.getElem?_eq_some_iff.1 hp).1
      have e0 : i = 0 := by simp at h1; omega
      subst e0
      simp at hp
      subst hp
      exact ⟨_, rfl, OwnInts.ext f4 ea⟩
    · simp at hp
      subst hp
      exact lookP_ok hm (by omega) (by omega)
  rw [← hW]
  clear hW k0 kf k1 kf1 hB hf h0
  go_loopw [7] (fun i wr => ∃ (k : Nat) (s : List MP × List RuleD) (rv pv : Value) (vs : List Value), i = .int .i64 k ∧ BldAt (actW m) mp0 N k s ∧ InZ w0 m N bk b s rv pv vs wr) (fun i _ => 1001 - (intOf i).toNat)
  case atStart => exact ⟨0, ([mp0], []), _, _, _, rfl, BldAt.start _ _ _, HI⟩
  case round =>
    clear HI
    obtain ⟨k, s, rv, pv, vs, rfl, hB, inv⟩ := hrel
    have hk1 := hB.le
    have hk2 := hB.most
    obtain ⟨Ap, cp, rfl⟩ := inv.st.form
    have c3 := inv.st.blk.cell 3
    simp only [List.getElem?_toArray, List.getElem?_cons_zero, List.getElem?_cons_succ] at c3
    by_cases hlt : k < s.1.length
    · obtain ⟨p, hp⟩ : ∃ p, s.1[k]? = some p := ⟨s.1[k], List.getElem?_eq_getElem hlt⟩
      have hpo : WOk m p := inv.ok p (List.mem_of_getElem? hp)
      go_wp2
      go_loopw [8] (fun i wr' => ∃ (j : Nat) (rv pv : Value) (vs : List Value), j ≤ N ∧ i = .int .i64 j ∧ (rowTo (actW m) p s j).1.length ≤ 1000 ∧ InZ w0 m N bk b (rowTo (actW m) p s j) rv pv vs wr') (fun i _ => N - (intOf i).toNat)
      case atStart => exact ⟨0, _, _, _, Nat.zero_le _, rfl, hk2, inv⟩
      case round =>
        clear inv c3
        obtain ⟨j, rv, pv, vs, hj, rfl, hlen1, inv⟩ := hrel
        by_cases hjn : j < N
        · have fv0 : (0 : Int) ≤ (j : Int) := by omega
          have fv1 : (j : Int) < 2 * m.sy := by have := HN.out; omega
          have hpj : (rowTo (actW m) p s j).1[k]? = some p := by
            obtain ⟨t, ht⟩ := rowTo_prefix (actW m) p s j
            rw [← ht, List.getElem?_append_left hlt]; exact hp
          have htl : (rowTo (actW m) p s j).2.length ≤ 6600 := by
            have h1 := rowTo_length (actW m) p s j
            have h2 := hB.rules
            have h3 : k * N ≤ 1000 * 6 := Nat.mul_le_mul (by omega) n6
            omega
          have HRT : Hid (rowTo (actW m) p s (j + 1) = symStep (actW m) p (rowTo (actW m) p s j) j) := rfl
          have HF : Hid (1000 < (symStep (actW m) p (rowTo (actW m) p s j) j).1.length → weaveB m = none) := by
            unfold Hid
            intro hbig
            rw [HB.out]
            refine hB.fails hlt hp (Nat.lt_of_lt_of_le hbig ?_)
            have := rowTo_le (actW m) p s (show j + 1 ≤ N by omega)
            exact this
          have HBA := Lib.hid hB
          clear hB
          generalize rowTo (actW m) p s j = t at *
          have hkt : k < t.1.length := (List.getElem?_eq_some_iff.1 hpj).1
          obtain ⟨Ap, cp, rfl⟩ := inv.st.form
          obtain ⟨gp, A', c', rfl, hgp1, hgp2, a0, ho⟩ := inv.st.at hpj
          have c3 := inv.st.blk.cell 3
          simp only [List.getElem?_toArray, List.getElem?_cons_zero, List.getElem?_cons_succ] at c3
          go_wp2_with fail
          refine (moveM_c bk b m p j _ _ _ _ _ _ wr inv.st.blk (hM.ext inv.below) hm hpo fv0 fv1 ho.ints).mono ?_
          have hap := fun hno => actW_ok hm hpo fv0 fv1 (v := (j : Int)) hno
          have hsN := fun hno => symStep_no (act := actW m) (p := p) (s := t) (v := (j : Int)) hno
          have hsY := fun hno => symStep_yes (act := actW m) (p := p) (s := t) (v := (j : Int)) hno
          generalize hST : symStep (actW m) p t j = st at *
          clear hST
          generalize actW m p j = a at *
          rintro e w3 ⟨hres, hx3⟩
          have inv4 := inv.ext hx3
          clear c3 a0
          rcases hres with ⟨hno, rfl⟩ | ⟨hno, A1, c1, rfl, ho1⟩
          · have HS := Lib.hid (hsN hno)
            clear hsN hsY hap HF
            obtain ⟨U, hU⟩ : ∃ U, U = w3.alloc (.cells #[.bool false, .int .i64 0, .int .i64 0, .slice none 0 0] 147) := ⟨_, rfl⟩
            have hXU : Ext w3 U := by rw [hU]; exact Ext.alloc _ _
            have inv5 := inv4.ext hXU
            go_wp2_with fail
            rw [← hU]
            clear hU
            have hrl : OwnRules w0.heap.size U rv t.2 := inv5.st.rules
            obtain ⟨Ar, cr, rfl, _, _, _⟩ := (ownsRow_row hrl).form
            have c6 := inv5.st.blk.cell 6
            simp only [List.getElem?_toArray, List.getElem?_cons_zero, List.getElem?_cons_succ] at c6
            have hsU := Ext.size inv5.below
            go_region_law
              (first
                | (refine step_append_lies _ (by rfl) _ _ _ (by rfl) w0.heap.size 150 i0 _ 3 24 Tryz.underlying59 hi hz0 hz1 hz2 rfl (by omega) _ _ (rvs t.2) (by first | rfl | simp [Act.eval, Act.put]) (OwnRules.ext hrl e6) ⟨w5.heap.size, 0, none⟩ 1 1 [.int .i64 0, .int .i64 0, .int .i64 (-1)] (by first | rfl | simp [Act.eval, Act.put]) rfl (World.news_of_block (w := w5.alloc (.cells #[.int .i64 0, .int .i64 0, .int .i64 (-1)] 150)) (heap_alloc_new w5 _)) (by simp [Value.oneCell']) (by omega) (by unfold maxLen; omega) (by omega) hsz6 (w5.heap.size + 1) (by simp) ?_; intro g7 cap w7 hown7 hg7 hat7 hlt7; have I7 := I6.ruled (r := ⟨0, 0, -1⟩) hown7 hg7; have B7 := Blk.apart I6.st.blk I6.st.rules (by decide) hg7; have z2 := B7.cell 6; have f2 := B7.frozen 6; simp only [List.getElem?_toArray, List.getElem?_cons_zero, List.getElem?_cons_succ] at z2)
                | (go_simp; go_at_call 83; ((with_reducible refine (l05None_c _).mono ?_)); rintro e w5 ⟨rfl, hx5⟩; have e5 := (Ext.drew U).trans hx5; have e6 := e5.trans (Ext.alloc w5 (.cells #[.int .i64 0, .int .i64 0, .int .i64 (-1)] 150)); have I6 := inv5.ext e6; have c65 := e5.cell c6; have c66 := e6.cell c6; have hsz6 : w0.heap.size ≤ (w5.alloc (.cells #[.int .i64 0, .int .i64 0, .int .i64 (-1)] 150)).heap.size := Ext.size I6.below))
            all_goals
              try go_wp2
              go_roundw
              case rel => exact ⟨j + 1, _, _, _, by omega, by go_num, by rw [HRT.out, HS.out]; exact hlen1, by rw [HRT.out, HS.out]; exact I7⟩
              case measure => simp [intOf]; omega
          · have HS := Lib.hid (hsY hno)
            have HAP := Lib.hid (hap hno)
            clear hsN hsY hap
            have o4 : OwnInts w0.heap.size w3 (.slice A1 (encM m a.p).length c1) (encM m a.p) := ownsRow_base ho1 (Ext.size inv.below)
            obtain ⟨aw, am, ap, ano⟩ := a
            simp only at hno HS HAP o4
            clear ho1
            generalize hen : (encM m ap).length = en at *
            have HEN := Lib.hid hen
            clear hen
            obtain ⟨U, hU⟩ : ∃ U, U = w3.alloc (.cells #[.bool true, .int .i64 aw, .int .i64 am, .slice A1 en c1] 147) := ⟨_, rfl⟩
            have hXU : Ext w3 U := by rw [hU]; exact Ext.alloc _ _
            have bA : Blk U w3.heap.size 147 #[.bool true, .int .i64 aw, .int .i64 am, .slice A1 en c1] := by rw [hU]; exact Blk.new _ _ _ _ rfl
            have inv5 := inv4.ext hXU
            have o5 : OwnInts w0.heap.size U (.slice A1 en c1) (encM m ap) := OwnInts.ext o4 hXU
            go_wp2_with fail
            rw [← hU]
            clear hU
            refine (findM_c inv5.st hm inv5.ok ap HAP.out _ o5.ints (by omega)).mono ?_
            rintro e w6 ⟨rfl, hx6⟩
            have inv6 := inv5.ext hx6
            have bA6 := bA.ext hx6
            have o6 := o5.ext hx6
            clear inv5 bA o5 inv4 o4
            by_cases hin : ap ∈ t.1
            · have hfn : findW t.1 ap = (t.1.idxOf ap : Nat) := by simp [findW, hin]
              rw [hfn]
              rw [addP_old hin] at HS
              have hneg : decide (((t.1.idxOf ap : Nat) : Int) < 0) = false := by simp
              go_wp2_with fail
              have hrl : OwnRules w0.heap.size w6 rv t.2 := inv6.st.rules
              obtain ⟨Ar, cr, rfl, _, _, _⟩ := (ownsRow_row hrl).form
              have eA := (Ext.alloc w6 (.cells #[.int .i64 aw, .int .i64 am, .int .i64 (t.1.idxOf ap : Nat)] 150)).trans (Ext.drew _)
              have I6 := inv6.ext eA
              have c6 := inv6.st.blk.cell 6
              have c6' := (inv6.st.blk.alloc (.cells #[.int .i64 aw, .int .i64 am, .int .i64 (t.1.idxOf ap : Nat)] 150)).cell 6
              have q1 := bA6.cell 1
              have q2 := bA6.cell 2
              simp only [List.getElem?_toArray, List.getElem?_cons_zero, List.getElem?_cons_succ] at c6 c6' q1 q2
              have hsU := Ext.size inv6.below
              go_region_law ((refine step_append_lies _ (by rfl) _ _ _ (by rfl) w0.heap.size 150 i0 _ 3 24 Tryz.underlying59 hi hz0 hz1 hz2 rfl (by omega) _ _ (rvs t.2) (by first | rfl | simp [Act.eval, Act.put]) (OwnRules.ext hrl eA) ⟨w6.heap.size, 0, none⟩ 1 1 [.int .i64 aw, .int .i64 am, .int .i64 (t.1.idxOf ap : Nat)] (by first | rfl | simp [Act.eval, Act.put]) rfl (World.news_of_block (w := (w6.alloc (.cells #[.int .i64 aw, .int .i64 am, .int .i64 (t.1.idxOf ap : Nat)] 150)).drew) (heap_alloc_new w6 _)) (by simp [Value.oneCell']) (by omega) (by unfold maxLen; omega) (by omega) (by simp; omega) (w6.heap.size + 1) (by simp) ?_; intro g7 cap w7 hown7 hg7 hat7 hlt7; have I7 := I6.ruled (r := ⟨aw, am, (t.1.idxOf ap : Nat)⟩) hown7 hg7; have B7 := Blk.apart I6.st.blk I6.st.rules (by decide) hg7; have z2 := B7.cell 6; have f2 := B7.frozen 6; simp only [List.getElem?_toArray, List.getElem?_cons_zero, List.getElem?_cons_succ] at z2))
              all_goals
                try go_wp2
                go_roundw
                case rel => exact ⟨j + 1, _, _, _, by omega, by go_num, by rw [HRT.out, HS.out]; exact hlen1, by rw [HRT.out, HS.out]; exact I7⟩
                case measure => simp [intOf]; omega
            · have hfn : findW t.1 ap = -1 := by simp [findW, hin]
              rw [hfn]
              rw [idx_new hin, addP_new hin] at HS
              have c3 := inv6.st.blk.cell 3
              simp only [List.getElem?_toArray, List.getElem?_cons_zero, List.getElem?_cons_succ] at c3
              by_cases h1000 : t.1.length = 1000
              · have hb1000 : ((t.1.length : Int) == 1000) = true := by simp [h1000]
                have HNO : Hid (weaveB m = none) := by
                  unfold Hid
                  refine HF.out ?_
                  rw [HS.out]
                  simp
                  omega
                clear h1000
                go_wp2
                go_ret
                exact ⟨.inl ⟨HNO.out, rfl⟩, inv6.below⟩
              · have hb1000 : ((t.1.length : Int) == 1000) = false := by simp; omega
                have eB := (Ext.alloc w6 (.cells #[.slice A1 en c1] 44)).trans (Ext.drew _)
                have I8 := inv6.ext eB
                have o8 := OwnInts.ext o6 eB
                have c3' := (inv6.st.blk.alloc (.cells #[.slice A1 en c1] 44)).cell 3
                have q3 := bA6.cell 3
                simp only [List.getElem?_toArray, List.getElem?_cons_zero, List.getElem?_cons_succ] at c3' q3
                have hs6 := Ext.size inv6.below
                have bA8 := bA6.ext eB
                go_wp2
                go_region_law ((refine step_append_lies _ (by rfl) _ _ _ (by rfl) w0.heap.size 44 j0 _ 1 24 Tryz.underlying25 hjI hy0 hy1 hy2 rfl (by omega) _ _ vs (by first | rfl | simp [Act.eval, Act.put]) I8.st.places ⟨w6.heap.size, 0, none⟩ 1 1 [.slice A1 en c1] (by first | rfl | simp [Act.eval, Act.put]) rfl (World.news_of_block (w := (w6.alloc (.cells #[.slice A1 en c1] 44)).drew) (heap_alloc_new w6 _)) (by simp [Value.oneCell']) (by omega) (by unfold maxLen; omega) (by omega) (by simp; omega) (w6.heap.size + 1) (by simp) ?_; intro g9 cap9 w9 hown9 hg9 hat9 hlt9; have I9 := I8.added o8 HAP.out hown9 hg9; have B9 := Blk.apart I8.st.blk I8.st.places (by decide) hg9; have z9 := B9.cell 3; have f9 := B9.frozen 3; have bA9 := (Blk.apart bA8 I8.st.places (by decide) hg9).far (p := ⟨bk, 3, none⟩) (blk_ne (Blk.apart bA8 I8.st.places (by decide) hg9) B9 (by decide)) (.slice (some ⟨g9, 0, none⟩) (t.1.length + 1) cap9); simp only [List.getElem?_toArray, List.getElem?_cons_zero, List.getElem?_cons_succ] at z9))
                all_goals
                  obtain ⟨X, hX⟩ : ∃ X, X = w9.setCell ⟨bk, 3, none⟩ (.slice (some ⟨g9, 0, none⟩) (t.1.length + 1) cap9) := ⟨_, rfl⟩
                  rw [← hX] at I9 bA9 ⊢
                  clear hX c3 c3' z9 f9 q3 I8
                  try go_wp2_with fail
                  have hrl : OwnRules w0.heap.size X rv t.2 := I9.st.rules
                  obtain ⟨Ar, cr, rfl, _, _, _⟩ := (ownsRow_row hrl).form
                  have eA := (Ext.alloc X (.cells #[.int .i64 aw, .int .i64 am, .int .i64 (t.1.length : Nat)] 150)).trans (Ext.drew _)
                  have I6 := I9.ext eA
                  have c6 := I9.st.blk.cell 6
                  have c6' := (I9.st.blk.alloc (.cells #[.int .i64 aw, .int .i64 am, .int .i64 (t.1.length : Nat)] 150)).cell 6
                  have q1 := bA9.cell 1
                  have q2 := bA9.cell 2
                  simp only [List.getElem?_toArray, List.getElem?_cons_zero, List.getElem?_cons_succ] at c6 c6' q1 q2
                  have hsU := Ext.size I9.below
                  go_region_law ((refine step_append_lies _ (by rfl) _ _ _ (by rfl) w0.heap.size 150 i0 _ 3 24 Tryz.underlying59 hi hz0 hz1 hz2 rfl (by omega) _ _ (rvs t.2) (by first | rfl | simp [Act.eval, Act.put]) (OwnRules.ext hrl eA) ⟨X.heap.size, 0, none⟩ 1 1 [.int .i64 aw, .int .i64 am, .int .i64 (t.1.length : Nat)] (by first | rfl | simp [Act.eval, Act.put]) rfl (World.news_of_block (w := (X.alloc (.cells #[.int .i64 aw, .int .i64 am, .int .i64 (t.1.length : Nat)] 150)).drew) (heap_alloc_new X _)) (by simp [Value.oneCell']) (by omega) (by unfold maxLen; omega) (by omega) (by simp; omega) (X.heap.size + 1) (by simp) ?_; intro g7 cap w7 hown7 hg7 hat7 hlt7; have I7 := I6.ruled (r := ⟨aw, am, (t.1.length : Nat)⟩) hown7 hg7; have B7 := Blk.apart I6.st.blk I6.st.rules (by decide) hg7; have z2 := B7.cell 6; have f2 := B7.frozen 6; simp only [List.getElem?_toArray, List.getElem?_cons_zero, List.getElem?_cons_succ] at z2))
                  all_goals
                    try go_wp2
                    go_roundw
                    case rel => exact ⟨j + 1, _, _, _, by omega, by go_num, by rw [HRT.out, HS.out]; (simp; omega), by rw [HRT.out, HS.out]; exact I7⟩
                    case measure => simp [intOf]; omega
        · have hjN : j = N := by omega
          subst hjN
          have HBN := Lib.hid (hB.step hlt hp hlen1)
          clear hB
          generalize rowTo (actW m) p s j = t at *
          go_wp2
          go_roundw
          case rel => exact ⟨k + 1, t, rv, pv, vs, by go_num, HBN.out, inv⟩
          case measure => simp [intOf]; omega
    · have HBN := Lib.hid (hB.ends hlt)
      have one := hB.one
      clear hB
      have f5 := inv.st.blk.frozen 5
      have c5 := inv.st.blk.cell 5
      simp only [List.getElem?_toArray, List.getElem?_cons_zero, List.getElem?_cons_succ] at c5
      go_wp2
      go_ret
      have hgs := grownBy_setCell wr ⟨bk, 5, none⟩ (.int .i64 (s.1.length : Nat))
      refine ⟨.inr ⟨s, rv, _, vs, HB.out.trans HBN.out, rfl, ⟨?_, own_kept inv.st.rules hgs (blk_ne_row inv.st.blk inv.st.rules (by decide)), own_kept inv.st.places hgs (blk_ne_row inv.st.blk inv.st.places (by decide)), fun i p hp => ?_, inv.st.low⟩, inv.ok, one, hk2⟩, Below.setCell inv.below inv.st.low _⟩
      · have := inv.st.blk.set_ 5 (.int .i64 (s.1.length : Nat))
        rw [HN.out]
        exact this
      · obtain ⟨u, e, hu⟩ := inv.st.rows i p hp
        exact ⟨u, e, own_kept hu hgs (blk_ne_row inv.st.blk hu (by decide))⟩
end Go.Proofs.YtfghojbbofobeaaGreatDoor
end
