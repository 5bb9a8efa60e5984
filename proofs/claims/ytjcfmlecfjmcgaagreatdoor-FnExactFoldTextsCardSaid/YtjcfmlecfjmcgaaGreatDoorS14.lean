/- What a store into one block leaves of other blocks and rows. No condition.
Contract of the program's numbers of places, of the machine on one half of the tape. Fewer than 100000 places have a number. -/
import Derived.Test.YtjcfmlecfjmcgaaGreatDoorS01
import Derived.Test.YtjcfmlecfjmcgaaGreatDoorS12
import Derived.Test.YtjcfmlecfjmcgaaGreatDoorS13
import Derived.StillTailTactics
import Derived.Deep.RegionLaw
import Derived.Deep.AppendLies
import Derived.Maps.AppendAt
section
namespace Go.Proofs.YtjcfmlecfjmcgaaGreatDoor
open Go Go.RowKit Go.Proofs
theorem Blk.kept {w w' : World} {g : Nat} {t : TypeId} {cs : Array Value} {row : Option Nat} (h : Blk w g t cs) (hg : w.grownBy w' row) (hne : some g ≠ row) : Blk w' g t cs := (hg.block g h.lt hne).trans h
theorem blk_ne_row {w : World} {g : Nat} {t : TypeId} {cs : Array Value} (hb : Blk w g t cs) {base : Nat} {e : TypeId} {size : Nat} {v : Value} {n : Nat} {xs : List Value} (ho : w.ownsRow base e size v n xs) (hne : t ≠ e) : some g ≠ v.ownBlock := by
  rcases ho.2 with ⟨rfl, _⟩ | ⟨g', cap, cur, rfl, _, hh, _⟩
  · simp [Value.ownBlock]
  · intro he
    have : g = g' := by simpa [Value.ownBlock] using he
    subst this
    unfold Blk at hb
    rw [hb] at hh
    injection hh with hh
    injection hh with _ ht
    exact hne ht
theorem own_kept {w w' : World} {base : Nat} {e : TypeId} {size : Nat} {v : Value} {n : Nat} {xs : List Value} {g : Nat} (h : w.ownsRow base e size v n xs) (hg : w.grownBy w' (some g)) (hne : some g ≠ v.ownBlock) : w'.ownsRow base e size v n xs := h.kept hg (.inr (Ne.symm hne))
theorem grownBy_setCell (w : World) (p : Addr) (u : Value) : w.grownBy (w.setCell p u) (some p.block) :=
  ⟨rfl, rfl, rfl, by simp [World.setCell], fun k _ hk => Below.heap_setCell w p u k (fun e => hk (by rw [e]))⟩
theorem blk_type {w : World} {g : Nat} {t t' : TypeId} {cs cs' : Array Value} (h : Blk w g t cs) (h' : Blk w g t' cs') : t = t' := by
  unfold Blk at h h'
  rw [h] at h'
  injection h' with h'
  injection h' with _ e
theorem blk_ne {w : World} {g g' : Nat} {t t' : TypeId} {cs cs' : Array Value} (h : Blk w g t cs) (h' : Blk w g' t' cs') (ht : t ≠ t') : g ≠ g' := by
  rintro rfl
  exact ht (blk_type h h')
end Go.Proofs.YtjcfmlecfjmcgaaGreatDoor
end
section
namespace Go.Proofs.YtjcfmlecfjmcgaaGreatDoor
open Go Go.RowKit Go.Proofs Go.Maps
set_option maxHeartbeats 400000
theorem laidOutF : laidOutB Tryz.prog = true := by kernel_rfl
theorem fpTy : MapTy Tryz.prog 73 102 2 where
  keyed := Keyed.of_law (deep_law_laid laidOutF (m := 3) (by omega) (by decide +kernel) (by kernel_rfl) (by kernel_rfl))
  und := Tryz.underlying73
  el := Tryz.underlying2
  zero w := by kernel_rfl
def small (z : Int) : Prop := -1000000 ≤ z ∧ z ≤ 1000000
theorem small_wf {z : Int} (h : small z) : (Lit.int .i64 z).wf = true := by
  obtain ⟨_, _⟩ := h
  simp [Lit.wf, IntKind.min, IntKind.max, IntKind.signed, IntKind.bits]
  omega
theorem fpKey (p : FP) (h1 : small p.k) (h2 : small p.q) (h3 : small p.h) : ∃ l, keyOf Tryz.prog 102 p.v = some l := by
  have w1 := small_wf h1
  have w2 := small_wf h2
  have w3 := small_wf h3
  have c3 : Tryz.prog.cellsOf 102 = 3 := by kernel_rfl
  have c1 : Tryz.prog.cellsOf 2 = 1 := by kernel_rfl
  have kt : Tryz.prog.keyType 102 = true := by kernel_rfl
  obtain ⟨d, hd⟩ : ∃ d, Tryz.prog.types.size = d + 1 := ⟨Tryz.prog.types.size - 1, by decide +kernel⟩
  have hf : p.v.formed Tryz.prog 102 = true := by simp [Value.formed, FP.v, Tryz.underlying102, c3]
  have hK : Tryz.prog.keyLits (Tryz.prog.types.size + 1) 102 p.v.cells.toList = some [.int .i64 p.k, .int .i64 p.q, .int .i64 p.h] := by
    rw [hd]
    simp [Program.keyLits, FP.v, Value.cells, Tryz.underlying102, Tryz.underlying2, c3, c1, w1, w2, w3]
  unfold keyOf
  rw [Tryz.underlying102]
  simp only [kt, hf, Bool.and_self, if_true, hK]
  exact ⟨_, rfl⟩
def fvs (ps : List FP) : List Value := ps.flatMap fun p => [.int .i64 p.k, .int .i64 p.q, .int .i64 p.h]
theorem fvs_snoc (ps : List FP) (x : FP) : fvs (ps ++ [x]) = fvs ps ++ [.int .i64 x.k, .int .i64 x.q, .int .i64 x.h] := by simp [fvs]
theorem fvs_length (ps : List FP) : (fvs ps).length = ps.length * 3 := by
  induction ps with
  | nil => rfl
  | cons a l ih => simp [fvs] at ih ⊢; omega
/-- The places, in memory. -/
structure PlSt (base : Nat) (w : World) (bx : Nat) (sy st : Int) (rs : List RuleD) (ps : List FP) (rv pv : Value) (bm : Nat) : Prop where
  blk : Blk w bx 75 #[.int .i64 sy, .int .i64 st, rv, pv, .map (some bm)]
  rules : OwnRules base w rv rs
  places : w.ownsRow base 102 3 pv ps.length (fvs ps)
  tbl : Tbl Tryz.prog 102 2 FP.v w bm ps.length (numOf ps)
  lowX : base ≤ bx
  lowM : base ≤ bm
theorem PlSt.ext {base : Nat} {w w' : World} {bx : Nat} {sy st : Int} {rs : List RuleD} {ps : List FP} {rv pv : Value} {bm : Nat} (h : PlSt base w bx sy st rs ps rv pv bm) (he : Ext w w') : PlSt base w' bx sy st rs ps rv pv bm :=
  ⟨h.blk.ext he, h.rules.ext he, ownsRow_ext h.places he, h.tbl.ext he, h.lowX, h.lowM⟩
theorem fpInfo : (Tryz.prog.info? 102).map (fun i => (i.zero, i.size, i.bytes)) = some (some (.agg #[.int .i64 0, .int .i64 0, .int .i64 0]), 3, 24) := by kernel_rfl
theorem sizeFp_c (v : Value) (n : Nat) (xs : List Value) (w : World) (h : Row w 3 v n xs) : Calls Tryz.prog 94 #[v] w fun e w' => e = .returned (.int .i64 n) ∧ w = w' := by
  obtain ⟨A, c, rfl, h1, h2, _⟩ := h.form
  go_enter Tryz.func94, Tryz.ntmps94
  go_wp2
  go_ret
  exact ⟨rfl, rfl⟩
theorem PlSt.added {base : Nat} {w3 w5 : World} {bx : Nat} {sy st : Int} {rs : List RuleD} {ps : List FP} {x : FP} {rv pv v' : Value} {bm : Nat} (hin : x ∉ ps)
    (B4 : Blk w3 bx 75 #[.int .i64 sy, .int .i64 st, rv, pv, .map (some bm)]) (R4 : OwnRules base w3 rv rs) (P4 : w3.ownsRow base 102 3 pv ps.length (fvs ps))
    (T4 : Tbl Tryz.prog 102 2 FP.v w3 bm (ps.length + 1) (fun y => if y = x then some (ps.length : Int) else numOf ps y)) (lowX : base ≤ bx) (lowM : base ≤ bm)
    (hown : w5.ownsRow base 102 3 v' (ps.length + 1) (fvs ps ++ [.int .i64 x.k, .int .i64 x.q, .int .i64 x.h])) (hg : w3.grownBy w5 pv.ownBlock) :
    PlSt base (w5.setCell ⟨bx, 3, none⟩ v') bx sy st rs (ps ++ [x]) rv v' bm := by
  have B5 := Blk.apart B4 P4 (by decide) hg
  have R5 : OwnRules base w5 rv rs := World.ownsRow.kept R4 hg (own_ne R4 P4 (by decide))
  have T5 := T4.kept hg (T4.ne_row P4)
  have hgs := grownBy_setCell w5 ⟨bx, 3, none⟩ v'
  refine ⟨B5.set_ 3 v', own_kept R5 hgs (blk_ne_row B5 R5 (by decide)), ?_, ?_, lowX, lowM⟩
  · have := own_kept hown hgs (blk_ne_row B5 hown (by decide))
    rw [fvs_snoc]
    simpa using this
  · have := T5.setCell (a := ⟨bx, 3, none⟩) (T5.ne_blk B5) v'
    rw [numOf_snoc hin]
    simpa using this
def NumRes (base : Nat) (w : World) (bx : Nat) (sy st : Int) (rs : List RuleD) (ps : List FP) (x : FP) (rv : Value) (bm : Nat) (e : Ending) (w' : World) : Prop :=
  e = .returned (.int .i64 ((addP ps x).idxOf x : Nat)) ∧ (∃ pv, PlSt base w' bx sy st rs (addP ps x) rv pv bm) ∧ Below base w w' ∧ ∀ g t cs, Blk w g t cs → t ≠ 75 → t ≠ 102 → Blk w' g t cs
set_option maxHeartbeats 4000000 in
set_option maxRecDepth 20000 in
theorem number_c (base : Nat) (w : World) (bx : Nat) (sy st : Int) (rs : List RuleD) (ps : List FP) (x : FP) (rv pv : Value) (bm : Nat) (h : PlSt base w bx sy st rs ps rv pv bm) (hb : base ≤ w.heap.size) (hn : ps.length ≤ 100000) (h1 : small x.k) (h2 : small x.q) (h3 : small x.h) :
    Calls Tryz.prog 92 #[.pointer (some ⟨bx, 0, none⟩), x.v] w (NumRes base w bx sy st rs ps x rv bm) := by
  have hk := fpKey x h1 h2 h3
  obtain ⟨W, hW⟩ : ∃ W, W = w.alloc (.cells #[.int .i64 x.k, .int .i64 x.q, .int .i64 x.h] 102) := ⟨_, rfl⟩
  have hXW : Ext w W := by rw [hW]; exact Ext.alloc _ _
  have bX : Blk W w.heap.size 102 #[.int .i64 x.k, .int .i64 x.q, .int .i64 x.h] := by rw [hW]; exact Blk.new _ _ _ _ rfl
  have H := h.ext hXW
  have hlook := fun d os => (H.ext (below_regrown W d os)).tbl.lookup2 fpTy x hk
  simp only [FP.v] at hlook ⊢
  obtain ⟨Ap, cp, rfl, hp1, hp2, _⟩ := (ownsRow_row h.places).form
  have k4 := H.blk.cell 4
  have x0 := bX.cell 0
  have x1 := bX.cell 1
  have x2 := bX.cell 2
  simp only [List.getElem?_toArray, List.getElem?_cons_zero, List.getElem?_cons_succ] at k4 x0 x1 x2
  have d4 := cellR k4
  have y0 := cellR x0
  have y1 := cellR x1
  have y2 := cellR x2
  by_cases hin : x ∈ ps
  · have hs : (numOf ps x).isSome = true := by simp [numOf, hin]
    rw [hs, idx_old hin] at hlook
    go_enter Tryz.func92, Tryz.ntmps92
    go_wp2_with fail
    rw [← hW]
    clear hW
    refine wp_region_ext (by kernel_rfl) (by kernel_rfl) ?_
    repeat (go_big_quiet_step (fail))
    refine wpQuiet_nil ?_
    intro w2 hx2
    go_wp2
    go_ret
    refine ⟨?_, ⟨.slice Ap ps.length cp, ?_⟩, ?_, fun g t cs hb _ _ => hb.ext (hXW.trans hx2)⟩
    · rw [addP_old hin]; rfl
    · rw [addP_old hin]; exact H.ext hx2
    · exact Below.mono (hXW.trans hx2) hb
  · have hs : (numOf ps x).isSome = false := by simp [numOf, hin]
    have hs0 : (numOf ps x).getD 0 = 0 := by simp [numOf, hin]
    rw [hs, hs0] at hlook
    go_enter Tryz.func92, Tryz.ntmps92
    go_wp2_with fail
    rw [← hW]
    clear hW
    refine wp_region_ext (by kernel_rfl) (by kernel_rfl) ?_
    repeat (go_big_quiet_step (fail))
    refine wpQuiet_nil ?_
    intro w2 hx2
    have H2 := H.ext hx2
    have X2 := bX.ext hx2
    have hX2 := hXW.trans hx2
    have c3 := H2.blk.cell 3
    have c4 := H2.blk.cell 4
    have x0 := X2.cell 0
    have x1 := X2.cell 1
    have x2 := X2.cell 2
    simp only [List.getElem?_toArray, List.getElem?_cons_zero, List.getElem?_cons_succ] at c3 c4 x0 x1 x2
    go_wp2_with fail
    refine (sizeFp_c _ _ _ _ (ownsRow_row H2.places)).mono ?_
    rintro e w' ⟨rfl, rfl⟩
    have H3 := H2.ext (Ext.drew w2)
    obtain ⟨w3, hupd, htbl, hg3⟩ := H3.tbl.update fpTy FP.v_inj (by unfold maxLen; omega) x hk (ps.length : Int) (small_wf (by unfold small; omega))
    simp only [FP.v] at hupd
    have hnb : some bx ≠ some bm := by
      have := H3.tbl.ne_blk H3.blk
      simp; omega
    have B4 := H3.blk.kept hg3 hnb
    have R4 := own_kept H3.rules hg3 (H3.tbl.ne_row H3.rules)
    have P4 := own_kept H3.places hg3 (H3.tbl.ne_row H3.places)
    have X4 := X2.drew.kept hg3 (by have := H3.tbl.ne_blk X2.drew; simp; omega)
    have hb4 : Below base w w3 := (Below.mono (hX2.trans (Ext.drew w2)) hb).grown hg3 (by have := hX2.size; simp; omega) (fun b hb => by injection hb with hb; subst hb; exact H3.lowM)
    have hsz4 : base ≤ w3.heap.size := by have := hg3.size; have := hX2.size; simp at *; omega
    have KF : Hid (∀ g t cs, Blk w g t cs → Blk w3 g t cs) := by
      unfold Hid
      intro g t cs hg
      have hg2 := hg.ext (hX2.trans (Ext.drew w2))
      exact hg2.kept hg3 (by have := H3.tbl.ne_blk hg2; simp; omega)
    obtain ⟨i0, hi, hz0, hz1, hz2⟩ := info_parts fpInfo
    go_wp2
    go_still_tail 6, (by kernel_rfl)
    change wpList _ _ _ _ _ w2.drew
    generalize w2.drew = w2d at *
    clear x0 x1 x2 c3 c4
    have c3 := B4.cell 3
    have x0 := X4.cell 0
    have x1 := X4.cell 1
    have x2 := X4.cell 2
    simp only [List.getElem?_toArray, List.getElem?_cons_zero, List.getElem?_cons_succ] at c3 x0 x1 x2
    go_wp2
    have eA := (Ext.alloc w3 (.cells #[.int .i64 x.k, .int .i64 x.q, .int .i64 x.h] 102)).trans (Ext.drew _)
    have B5 := B4.ext eA
    have R5 := OwnRules.ext R4 eA
    have P5 := ownsRow_ext P4 eA
    have T5 := htbl.ext eA
    have hb5 : Below base w (w3.alloc (.cells #[.int .i64 x.k, .int .i64 x.q, .int .i64 x.h] 102)).drew := (hb4.alloc hsz4 _).drew
    have c3' := (B4.alloc (.cells #[.int .i64 x.k, .int .i64 x.q, .int .i64 x.h] 102)).cell 3
    simp only [List.getElem?_toArray, List.getElem?_cons_zero, List.getElem?_cons_succ] at c3'
    have LX := H3.lowX
    have LM := H3.lowM
    clear hlook hupd hg3 d4 y0 y1 y2 k4
    go_region_law ((refine step_append_lies _ (by rfl) _ _ _ (by rfl) base 102 i0 _ 3 24 Tryz.underlying72 hi hz0 hz1 hz2 rfl (by omega) _ _ (fvs ps) (by rfl) P5 ⟨w3.heap.size, 0, none⟩ 1 1 [.int .i64 x.k, .int .i64 x.q, .int .i64 x.h] (by rfl) rfl (World.news_of_block (w := (w3.alloc (.cells #[.int .i64 x.k, .int .i64 x.q, .int .i64 x.h] 102)).drew) (heap_alloc_new w3 _)) (by simp [Value.oneCell']) (by omega) (by unfold maxLen; omega) (by omega) (by simp; omega) (w3.heap.size + 1) (by simp) ?_; intro g cap w5 hown5 hg5 hat5 hlt5; have PS := PlSt.added hin B5 R5 P5 T5 LX LM hown5 hg5; have B6 := Blk.apart B5 P5 (by decide) hg5; have hb6 := hb5.grown hg5 (by simp; omega) (fun b hb => (P5.lt b hb).1); have q3 := B6.cell 3; have f3 := B6.frozen 3; simp only [List.getElem?_toArray, List.getElem?_cons_zero, List.getElem?_cons_succ] at q3))
    all_goals
      try go_wp2
      go_ret
      refine ⟨?_, ⟨.slice (some ⟨g, 0, none⟩) (ps.length + 1) cap, ?_⟩, ?_, fun g' t cs hg' n1 n2 => ?_⟩
      · rw [idx_new hin]; rfl
      · rw [addP_new hin]; exact PS
      · exact hb6.setCell LX _
      · have b5 := Blk.apart ((KF.out g' t cs hg').ext eA) P5 n2 hg5
        exact b5.far (p := ⟨bx, 3, none⟩) (blk_ne b5 B6 n1) _
end Go.Proofs.YtjcfmlecfjmcgaaGreatDoor
end
