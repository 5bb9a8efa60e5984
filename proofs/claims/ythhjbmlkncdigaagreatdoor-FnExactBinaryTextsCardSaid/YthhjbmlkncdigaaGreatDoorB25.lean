/- Contract of the program's numbers of places, of the machine with two symbols. Fewer than 100000 places have a number.
Contract of the program's building of the machine with two symbols. The machine is valid.
Contracts: the program's machine with two symbols, and the program's configuration in one of its places. -/
import Derived.Test.YthhjbmlkncdigaaGreatDoorB22
import Derived.Test.YthhjbmlkncdigaaGreatDoorB24
import Derived.Test.YthhjbmlkncdigaaGreatDoorB10
import Derived.StillTailTactics
import Derived.Deep.RegionLaw
import Derived.Deep.AppendLies
import Derived.Maps.AppendAt
import Derived.Test.YthhjbmlkncdigaaGreatDoorB23
import Derived.Test.YthhjbmlkncdigaaGreatDoorB06
import Derived.Test.YthhjbmlkncdigaaGreatDoorB09
import Derived.Test.YthhjbmlkncdigaaGreatDoorB15
section
namespace Go.Proofs.YthhjbmlkncdigaaGreatDoor
open Go Go.RowKit Go.Proofs Go.Maps
set_option maxHeartbeats 400000
theorem laidOutBi : laidOutB Tryz.prog = true := by kernel_rfl
theorem biTy : MapTy Tryz.prog 76 80 2 where
  keyed := Keyed.of_law (deep_law_laid laidOutBi (m := 4) (by omega) (by decide +kernel) (by kernel_rfl) (by kernel_rfl))
  und := Tryz.underlying76
  el := Tryz.underlying2
  zero w := by kernel_rfl
def smallBi (z : Int) : Prop := -1000000 ≤ z ∧ z ≤ 1000000
theorem smallBi_wf {z : Int} (h : smallBi z) : (Lit.int .i64 z).wf = true := by
  obtain ⟨_, _⟩ := h
  simp [Lit.wf, IntKind.min, IntKind.max, IntKind.signed, IntKind.bits]
  omega
/-- All numbers of a place are small. -/
def SmBi (x : BP) : Prop := smallBi x.k ∧ smallBi x.a ∧ smallBi x.b ∧ smallBi x.c
theorem biKey (p : BP) (hs : SmBi p) : ∃ l, keyOf Tryz.prog 80 p.v = some l := by
  obtain ⟨h0, h1, h2, h3⟩ := hs
  have w0 := smallBi_wf h0
  have w1 := smallBi_wf h1
  have w2 := smallBi_wf h2
  have w3 := smallBi_wf h3
  have c4 : Tryz.prog.cellsOf 80 = 4 := by kernel_rfl
  have c1 : Tryz.prog.cellsOf 2 = 1 := by kernel_rfl
  have kt : Tryz.prog.keyType 80 = true := by kernel_rfl
  obtain ⟨d, hd⟩ : ∃ d, Tryz.prog.types.size = d + 1 := ⟨Tryz.prog.types.size - 1, by decide +kernel⟩
  have hf : p.v.formed Tryz.prog 80 = true := by simp [Value.formed, BP.v, Tryz.underlying80, c4]
  have hK : Tryz.prog.keyLits (Tryz.prog.types.size + 1) 80 p.v.cells.toList = some [.int .i64 p.k, .int .i64 p.a, .int .i64 p.b, .int .i64 p.c] := by
    rw [hd]
    simp [Program.keyLits, BP.v, Value.cells, Tryz.underlying80, Tryz.underlying2, c4, c1, w0, w1, w2, w3]
  unfold keyOf
  rw [Tryz.underlying80]
  simp only [kt, hf, Bool.and_self, if_true, hK]
  exact ⟨_, rfl⟩
def bivs (ps : List BP) : List Value := ps.flatMap fun p => [.int .i64 p.k, .int .i64 p.a, .int .i64 p.b, .int .i64 p.c]
theorem bivs_snoc (ps : List BP) (x : BP) : bivs (ps ++ [x]) = bivs ps ++ [.int .i64 x.k, .int .i64 x.a, .int .i64 x.b, .int .i64 x.c] := by simp [bivs]
/-- The places, in memory. -/
structure PlBi (base : Nat) (w : World) (bx : Nat) (sy st : Int) (rs : List RuleD) (ps : List BP) (rv pv : Value) (bm : Nat) : Prop where
  blk : Blk w bx 78 #[.int .i64 sy, .int .i64 st, rv, pv, .map (some bm)]
  rules : OwnRules base w rv rs
  places : w.ownsRow base 80 4 pv ps.length (bivs ps)
  tbl : Tbl Tryz.prog 80 2 BP.v w bm ps.length (numOf ps)
  lowX : base ≤ bx
  lowM : base ≤ bm
theorem PlBi.ext {base : Nat} {w w' : World} {bx : Nat} {sy st : Int} {rs : List RuleD} {ps : List BP} {rv pv : Value} {bm : Nat} (h : PlBi base w bx sy st rs ps rv pv bm) (he : Ext w w') : PlBi base w' bx sy st rs ps rv pv bm :=
  ⟨h.blk.ext he, h.rules.ext he, ownsRow_ext h.places he, h.tbl.ext he, h.lowX, h.lowM⟩
theorem biInfo : (Tryz.prog.info? 80).map (fun i => (i.zero, i.size, i.bytes)) = some (some (.agg #[.int .i64 0, .int .i64 0, .int .i64 0, .int .i64 0]), 4, 32) := by kernel_rfl
theorem sizeBp_c (v : Value) (n : Nat) (xs : List Value) (w : World) (h : Row w 4 v n xs) : Calls Tryz.prog 96 #[v] w fun e w' => e = .returned (.int .i64 n) ∧ w = w' := by
  obtain ⟨A, c, rfl, h1, h2, _⟩ := h.form
  go_enter Tryz.func96, Tryz.ntmps96
  go_wp2
  go_ret
  exact ⟨rfl, rfl⟩
theorem PlBi.added {base : Nat} {w3 w5 : World} {bx : Nat} {sy st : Int} {rs : List RuleD} {ps : List BP} {x : BP} {rv pv v' : Value} {bm : Nat} (hin : x ∉ ps)
    (B4 : Blk w3 bx 78 #[.int .i64 sy, .int .i64 st, rv, pv, .map (some bm)]) (R4 : OwnRules base w3 rv rs) (P4 : w3.ownsRow base 80 4 pv ps.length (bivs ps))
    (T4 : Tbl Tryz.prog 80 2 BP.v w3 bm (ps.length + 1) (fun y => if y = x then some (ps.length : Int) else numOf ps y)) (lowX : base ≤ bx) (lowM : base ≤ bm)
    (hown : w5.ownsRow base 80 4 v' (ps.length + 1) (bivs ps ++ [.int .i64 x.k, .int .i64 x.a, .int .i64 x.b, .int .i64 x.c])) (hg : w3.grownBy w5 pv.ownBlock) :
    PlBi base (w5.setCell ⟨bx, 3, none⟩ v') bx sy st rs (ps ++ [x]) rv v' bm := by
  have B5 := Blk.apart B4 P4 (by decide) hg
  have R5 : OwnRules base w5 rv rs := World.ownsRow.kept R4 hg (own_ne R4 P4 (by decide))
  have T5 := T4.kept hg (T4.ne_row P4)
  have hgs := grownBy_setCell w5 ⟨bx, 3, none⟩ v'
  refine ⟨B5.set_ 3 v', own_kept R5 hgs (blk_ne_row B5 R5 (by decide)), ?_, ?_, lowX, lowM⟩
  · have := own_kept hown hgs (blk_ne_row B5 hown (by decide))
    rw [bivs_snoc]
    simpa using this
  · have := T5.setCell (a := ⟨bx, 3, none⟩) (T5.ne_blk B5) v'
    rw [numOf_snoc hin]
    simpa using this
def NumBi (base : Nat) (w : World) (bx : Nat) (sy st : Int) (rs : List RuleD) (ps : List BP) (x : BP) (rv : Value) (bm : Nat) (e : Ending) (w' : World) : Prop :=
  e = .returned (.int .i64 ((addP ps x).idxOf x : Nat)) ∧ (∃ pv, PlBi base w' bx sy st rs (addP ps x) rv pv bm) ∧ Below base w w' ∧ ∀ g t cs, Blk w g t cs → t ≠ 78 → t ≠ 80 → Blk w' g t cs
set_option maxHeartbeats 4000000 in
set_option maxRecDepth 20000 in
theorem numberB_c (base : Nat) (w : World) (bx : Nat) (sy st : Int) (rs : List RuleD) (ps : List BP) (x : BP) (rv pv : Value) (bm : Nat) (h : PlBi base w bx sy st rs ps rv pv bm) (hb : base ≤ w.heap.size) (hn : ps.length ≤ 100000) (hs : SmBi x) :
    Calls Tryz.prog 94 #[.pointer (some ⟨bx, 0, none⟩), x.v] w (NumBi base w bx sy st rs ps x rv bm) := by
  have hk := biKey x hs
  obtain ⟨W, hW⟩ : ∃ W, W = w.alloc (.cells #[.int .i64 x.k, .int .i64 x.a, .int .i64 x.b, .int .i64 x.c] 80) := ⟨_, rfl⟩
  have hXW : Ext w W := by rw [hW]; exact Ext.alloc _ _
  have bX : Blk W w.heap.size 80 #[.int .i64 x.k, .int .i64 x.a, .int .i64 x.b, .int .i64 x.c] := by rw [hW]; exact Blk.new _ _ _ _ rfl
  have H := h.ext hXW
  have hlook := fun d os => (H.ext (below_regrown W d os)).tbl.lookup2 biTy x hk
  simp only [BP.v] at hlook ⊢
  obtain ⟨Ap, cp, rfl, hp1, hp2, _⟩ := (ownsRow_row h.places).form
  have k4 := H.blk.cell 4
  have x0 := bX.cell 0
  have x1 := bX.cell 1
  have x2 := bX.cell 2
  have x3 := bX.cell 3
  simp only [List.getElem?_toArray, List.getElem?_cons_zero, List.getElem?_cons_succ] at k4 x0 x1 x2 x3
  have d4 := cellR k4
  have y0 := cellR x0
  have y1 := cellR x1
  have y2 := cellR x2
  have y3 := cellR x3
  by_cases hin : x ∈ ps
  · have hs : (numOf ps x).isSome = true := by simp [numOf, hin]
    rw [hs, idx_old hin] at hlook
    go_enter Tryz.func94, Tryz.ntmps94
    go_wp2_with fail
    rw [← hW]
    clear hW
    refine wp_region_ext (by kernel_rfl) (by kernel_rfl) ?_
    repeat (go_big_quiet_step (fail))
    refine wpQuiet_nil ?_
    intro w2 hx2
    go_wp2
    go_ret
    refine ⟨?_, ⟨.slice Ap ps.length cp, ?_⟩, ?_, fun g t cs hb _ _ => hb.ext (hXW.trans hx2)⟩
    · rw [addP_old hin]; rfl
    · rw [addP_old hin]; exact H.ext hx2
    · exact Below.mono (hXW.trans hx2) hb
  · have hs : (numOf ps x).isSome = false := by simp [numOf, hin]
    have hs0 : (numOf ps x).getD 0 = 0 := by simp [numOf, hin]
    rw [hs, hs0] at hlook
    go_enter Tryz.func94, Tryz.ntmps94
    go_wp2_with fail
    rw [← hW]
    clear hW
    refine wp_region_ext (by kernel_rfl) (by kernel_rfl) ?_
    repeat (go_big_quiet_step (fail))
    refine wpQuiet_nil ?_
    intro w2 hxw2
    have H2 := H.ext hxw2
    have X2 := bX.ext hxw2
    have hX2 := hXW.trans hxw2
    have c3 := H2.blk.cell 3
    have c4 := H2.blk.cell 4
    have x0 := X2.cell 0
    have x1 := X2.cell 1
    have x2 := X2.cell 2
    have x3 := X2.cell 3
    simp only [List.getElem?_toArray, List.getElem?_cons_zero, List.getElem?_cons_succ] at c3 c4 x0 x1 x2 x3
    go_wp2_with fail
    refine (sizeBp_c _ _ _ _ (ownsRow_row H2.places)).mono ?_
    rintro e w' ⟨rfl, rfl⟩
    have H3 := H2.ext (Ext.drew w2)
    obtain ⟨w3, hupd, htbl, hg3⟩ := H3.tbl.update biTy BP.v_inj (by unfold maxLen; omega) x hk (ps.length : Int) (smallBi_wf (by unfold smallBi; omega))
    simp only [BP.v] at hupd
    have hnb : some bx ≠ some bm := by
      have := H3.tbl.ne_blk H3.blk
      simp; omega
    have B4 := H3.blk.kept hg3 hnb
    have R4 := own_kept H3.rules hg3 (H3.tbl.ne_row H3.rules)
    have P4 := own_kept H3.places hg3 (H3.tbl.ne_row H3.places)
    have X4 := X2.drew.kept hg3 (by have := H3.tbl.ne_blk X2.drew; simp; omega)
    have hb4 : Below base w w3 := (Below.mono (hX2.trans (Ext.drew w2)) hb).grown hg3 (by have := hX2.size; simp; omega) (fun b hb => by injection hb with hb; subst hb; exact H3.lowM)
    have hsz4 : base ≤ w3.heap.size := by have := hg3.size; have := hX2.size; simp at *; omega
    have KF : Hid (∀ g t cs, Blk w g t cs → Blk w3 g t cs) := by
      unfold Hid
      intro g t cs hg
      have hg2 := hg.ext (hX2.trans (Ext.drew w2))
      exact hg2.kept hg3 (by have := H3.tbl.ne_blk hg2; simp; omega)
    obtain ⟨i0, hi, hz0, hz1, hz2⟩ := info_parts biInfo
    go_wp2
    go_still_tail 6, (by kernel_rfl)
    change wpList _ _ _ _ _ w2.drew
    generalize w2.drew = w2d at *
    clear x0 x1 x2 x3 c3 c4
    have c3 := B4.cell 3
    have x0 := X4.cell 0
    have x1 := X4.cell 1
    have x2 := X4.cell 2
    have x3 := X4.cell 3
    simp only [List.getElem?_toArray, List.getElem?_cons_zero, List.getElem?_cons_succ] at c3 x0 x1 x2 x3
    go_wp2
    have eA := (Ext.alloc w3 (.cells #[.int .i64 x.k, .int .i64 x.a, .int .i64 x.b, .int .i64 x.c] 80)).trans (Ext.drew _)
    have B5 := B4.ext eA
    have R5 := OwnRules.ext R4 eA
    have P5 := ownsRow_ext P4 eA
    have T5 := htbl.ext eA
    have hb5 : Below base w (w3.alloc (.cells #[.int .i64 x.k, .int .i64 x.a, .int .i64 x.b, .int .i64 x.c] 80)).drew := (hb4.alloc hsz4 _).drew
    have c3' := (B4.alloc (.cells #[.int .i64 x.k, .int .i64 x.a, .int .i64 x.b, .int .i64 x.c] 80)).cell 3
    simp only [List.getElem?_toArray, List.getElem?_cons_zero, List.getElem?_cons_succ] at c3'
    have LX := H3.lowX
    have LM := H3.lowM
    clear hlook hupd hg3 d4 y0 y1 y2 y3 k4
    go_region_law ((refine step_append_lies _ (by rfl) _ _ _ (by rfl) base 80 i0 _ 4 32 Tryz.underlying75 hi hz0 hz1 hz2 rfl (by omega) _ _ (bivs ps) (by rfl) P5 ⟨w3.heap.size, 0, none⟩ 1 1 [.int .i64 x.k, .int .i64 x.a, .int .i64 x.b, .int .i64 x.c] (by rfl) rfl (World.news_of_block (w := (w3.alloc (.cells #[.int .i64 x.k, .int .i64 x.a, .int .i64 x.b, .int .i64 x.c] 80)).drew) (heap_alloc_new w3 _)) (by simp [Value.oneCell']) (by omega) (by unfold maxLen; omega) (by omega) (by simp; omega) (w3.heap.size + 1) (by simp) ?_; intro g cap w5 hown5 hg5 hat5 hlt5; have PS := PlBi.added hin B5 R5 P5 T5 LX LM hown5 hg5; have B6 := Blk.apart B5 P5 (by decide) hg5; have hb6 := hb5.grown hg5 (by simp; omega) (fun b hb => (P5.lt b hb).1); have q3 := B6.cell 3; have f3 := B6.frozen 3; simp only [List.getElem?_toArray, List.getElem?_cons_zero, List.getElem?_cons_succ] at q3))
    all_goals
      try go_wp2
      go_ret
      refine ⟨?_, ⟨.slice (some ⟨g, 0, none⟩) (ps.length + 1) cap, ?_⟩, ?_, fun g' t cs hg' n1 n2 => ?_⟩
      · rw [idx_new hin]; rfl
      · rw [addP_new hin]; exact PS
      · exact hb6.setCell LX _
      · have b5 := Blk.apart ((KF.out g' t cs hg').ext eA) P5 n2 hg5
        exact b5.far (p := ⟨bx, 3, none⟩) (blk_ne b5 B6 n1) _
end Go.Proofs.YthhjbmlkncdigaaGreatDoor
end
section
set_option linter.unusedSimpArgs false
set_option linter.unusedVariables false
namespace Go.Proofs.YthhjbmlkncdigaaGreatDoor
open Go Go.RowKit Go.Proofs Go.Maps
set_option maxHeartbeats 400000
def BuildBi (w : World) (m : MachD) (e : Ending) (w' : World) : Prop :=
  ((binB m = none ∧ e = .returned (.tuple #[.pointer none, .bool false])) ∨
    ∃ s bx bm rv pv, binB m = some s ∧ e = .returned (.tuple #[.pointer (some ⟨bx, 0, none⟩), .bool true]) ∧ PlBi w.heap.size w' bx 2 s.1.length s.2 s.1 rv pv bm ∧ (∀ p ∈ s.1, BiOk m p) ∧ 1 ≤ s.1.length ∧ s.1.length ≤ 1000) ∧ Ext w w'
/-- How the building stands in memory. -/
structure InBi (w : World) (m : MachD) (N bx bm : Nat) (s : List BP × List RuleD) (rv pv : Value) (wr : World) : Prop where
  st : PlBi w.heap.size wr bx (N : Int) 0 s.2 s.1 rv pv bm
  below : Below w.heap.size w wr
  ok : ∀ p ∈ s.1, BiOk m p
theorem InBi.ext {w : World} {m : MachD} {N bx bm : Nat} {s : List BP × List RuleD} {rv pv : Value} {wr wr' : World} (h : InBi w m N bx bm s rv pv wr) (he : Ext wr wr') : InBi w m N bx bm s rv pv wr' :=
  ⟨h.st.ext he, Ext.trans h.below he, h.ok⟩
theorem PlBi.ruled {base : Nat} {w3 w5 : World} {bx : Nat} {sy st : Int} {rs : List RuleD} {ps : List BP} {rv pv v' : Value} {bm : Nat} {r : RuleD} (h : PlBi base w3 bx sy st rs ps rv pv bm)
    (hown : w5.ownsRow base 98 3 v' (rs.length + 1) (rvs rs ++ [.int .i64 r.w, .int .i64 r.m, .int .i64 r.n])) (hg : w3.grownBy w5 rv.ownBlock) :
    PlBi base (w5.setCell ⟨bx, 2, none⟩ v') bx sy st (rs ++ [r]) ps v' pv bm := by
  have B5 := Blk.apart h.blk h.rules (by decide) hg
  have P5 := World.ownsRow.kept h.places hg (own_ne h.places h.rules (by decide))
  have T5 := h.tbl.kept hg (h.tbl.ne_row h.rules)
  have hgs := grownBy_setCell w5 ⟨bx, 2, none⟩ v'
  refine ⟨B5.set_ 2 v', ?_, own_kept P5 hgs (blk_ne_row B5 P5 (by decide)), T5.setCell (a := ⟨bx, 2, none⟩) (T5.ne_blk B5) v', h.lowX, h.lowM⟩
  have := own_kept hown hgs (blk_ne_row B5 hown (by decide))
  unfold OwnRules
  rw [rvs_append]
  simpa [rvs] using this
theorem PlBi.store {base : Nat} {w6 : World} {bx : Nat} {sy st : Int} {rs : List RuleD} {ps : List BP} {rv pv : Value} {bm : Nat} (h : PlBi base w6 bx sy st rs ps rv pv bm) {g : Nat} {cs : Array Value} (hb : Blk w6 g 98 cs)
    (hne : ∀ k, rv.ownBlock = some k → k ≠ g) {p : Addr} (hp : p.block = g) (u : Value) : PlBi base (w6.setCell p u) bx sy st rs ps rv pv bm := by
  subst hp
  have hgs := grownBy_setCell w6 p u
  exact ⟨h.blk.far (blk_ne h.blk hb (by decide)) _, ownsRow_far h.rules hne _, own_kept h.places hgs (blk_ne_row hb h.places (by decide)), h.tbl.setCell (h.tbl.ne_blk hb) _, h.lowX, h.lowM⟩
theorem InBi.ruled {w : World} {m : MachD} {N bx bm : Nat} {s : List BP × List RuleD} {rv pv v' : Value} {wr w5 : World} {r : RuleD} (h : InBi w m N bx bm s rv pv wr)
    (hown : w5.ownsRow w.heap.size 98 3 v' (s.2.length + 1) (rvs s.2 ++ [.int .i64 r.w, .int .i64 r.m, .int .i64 r.n])) (hg : wr.grownBy w5 rv.ownBlock) :
    InBi w m N bx bm (s.1, s.2 ++ [r]) v' pv (w5.setCell ⟨bx, 2, none⟩ v') :=
  ⟨h.st.ruled hown hg, (Below.grown h.below hg (Ext.size h.below) (fun b hb => (World.ownsRow.lt h.st.rules b hb).1)).setCell h.st.lowX _, h.ok⟩
theorem bivs_get (ps : List BP) (i : Nat) {p : BP} (h : ps[i]? = some p) (j : Nat) (hj : j < 4) : (bivs ps)[i * 4 + j]? = [.int .i64 p.k, .int .i64 p.a, .int .i64 p.b, .int .i64 p.c][j]? := by
  induction ps generalizing i with
  | nil => simp at h
  | cons r ps ih =>
    cases i with
    | zero =>
      simp at h; subst h
      show ([.int .i64 r.k, .int .i64 r.a, .int .i64 r.b, .int .i64 r.c] ++ bivs ps)[0 * 4 + j]? = _
      rw [List.getElem?_append_left (by simp; omega)]
      simp
    | succ i =>
      have := ih i (by simpa using h)
      show ([.int .i64 r.k, .int .i64 r.a, .int .i64 r.b, .int .i64 r.c] ++ bivs ps)[(i + 1) * 4 + j]? = _
      rw [List.getElem?_append_right (by simp; omega), ← this]
      congr 1
      simp
      omega
theorem placesB_at {base : Nat} {w : World} {A : Option Addr} {c : Nat} {ps : List BP} (h : w.ownsRow base 80 4 (.slice A ps.length c) ps.length (bivs ps)) {k : Nat} {p : BP} (hp : ps[k]? = some p) :
    ∃ g, A = some ⟨g, 0, none⟩ ∧ base ≤ g ∧ g < w.heap.size ∧ ∀ j, j < 4 → w.cell? ⟨g, k * 4 + j, none⟩ = [.int .i64 p.k, .int .i64 p.a, .int .i64 p.b, .int .i64 p.c][j]? := by
  have hk : k < ps.length := (List.getElem?_eq_some_iff.1 hp).1
  obtain ⟨g, rfl, hb, hl⟩ := own_at h (by omega)
  obtain ⟨b', off, e, hc⟩ := Row.at (ownsRow_row h) hk
  injection e with e
  injection e with e1 e2
  subst e1 e2
  refine ⟨g, rfl, hb, hl, fun j hj => ?_⟩
  have h0 := hc (k * 4 + j) (by omega)
  rw [Nat.zero_add] at h0
  rw [h0, bivs_get ps k hp j hj]
theorem BiOk.small {m : MachD} (hm : machOk m = true) {p : BP} (hp : BiOk m p) : SmBi p := by
  obtain ⟨s1, s2, s3, s4, hl⟩ := machOk_all hm
  have hl6 : m.rules.length ≤ 6000 := by have := (mul_bounds s1 s2 s3 s4).2; omega
  have hb := bitsD_range m.sy
  unfold SmBi smallBi
  rcases hp with ⟨h0, a0, a1, b0, b1, c0, c1, _, _⟩ | ⟨h0, ⟨a0, a1, _⟩, b0, b1, c0⟩ | ⟨h0, ⟨a0, a1, _⟩, b0, b1, c0⟩ <;> omega
set_option maxHeartbeats 4000000 in
set_option maxRecDepth 20000 in
theorem buildBi_c (w : World) (b gb : Nat) (m : MachD) (hM : BinAt w b gb m) (hm : machOk m = true) :
    Calls Tryz.prog 61 #[.int .i64 2, bp0.v, .func (.func 62) #[] #[.pointer (some ⟨b, 0, none⟩), .pointer (some ⟨gb, 0, none⟩)]] w (BuildBi w m) := by
  obtain ⟨s1, s2, s3, s4, hl⟩ := machOk_all hm
  obtain ⟨N, hN⟩ : ∃ N : Nat, (2 : Int) = N := ⟨2, rfl⟩
  have HB : Hid (binB m = bld (actB m) bp0 N) := by unfold Hid binB; rw [show N = 2 by omega]
  rw [hN]
  have n3 : 2 ≤ N := by omega
  have n6 : N ≤ 6 := by omega
  have HN := Lib.hid hN
  clear hN hl
  have hmm := @run_makeMap Tryz.prog
  obtain ⟨W, hW⟩ : ∃ W, W = ((w.alloc (.cells #[.int .i64 0, .int .i64 0, .int .i64 0, .int .i64 0] 80)).alloc (.map #[] 0)).alloc (.cells #[.int .i64 (N : Int), .int .i64 0, .slice none 0 0, .slice none 0 0, .map (some (w.heap.size + 1))] 78) := ⟨_, rfl⟩
  have hXW : Ext w W := by rw [hW]; exact ((Ext.alloc _ _).trans (Ext.alloc _ _)).trans (Ext.alloc _ _)
  have hT := (Tbl.made Tryz.prog 80 2 BP.v (w.alloc (.cells #[.int .i64 0, .int .i64 0, .int .i64 0, .int .i64 0] 80))).ext (Ext.alloc _ (.cells #[.int .i64 (N : Int), .int .i64 0, .slice none 0 0, .slice none 0 0, .map (some (w.heap.size + 1))] 78))
  rw [← hW] at hT
  have P0 : PlBi w.heap.size W (w.heap.size + 1 + 1) (N : Int) 0 [] [] (.slice none 0 0) (.slice none 0 0) (w.heap.size + 1) := by
    refine ⟨by rw [hW]; exact Blk.new _ _ _ _ (by simp), World.ownsRow_nil .., World.ownsRow_nil .., ?_, by omega, by omega⟩
    rw [numOf_nil]
    simpa using hT
  have bF : Blk W w.heap.size 80 #[.int .i64 0, .int .i64 0, .int .i64 0, .int .i64 0] := by rw [hW]; exact ((Blk.new _ _ _ _ rfl).alloc _).alloc _
  simp only [bp0, BP.v]
  go_enter Tryz.func61, Tryz.ntmps61
  go_wp2_with fail
  rw [← hW]
  have sm0 : SmBi bp0 := by simp [SmBi, smallBi, bp0]
  refine (numberB_c w.heap.size W (w.heap.size + 1 + 1) N 0 [] [] bp0 _ _ (w.heap.size + 1) P0 hXW.size (by simp) sm0).mono ?_
  rintro e w1 ⟨rfl, ⟨pv1, P1⟩, hb1, _⟩
  have ep : addP [] bp0 = [bp0] := by simp [addP]
  rw [ep] at P1
  have hB1 : Below w.heap.size w w1 := Below.trans hXW hb1
  have HI : InBi w m N (w.heap.size + 1 + 1) (w.heap.size + 1) ([bp0], []) (.slice none 0 0) pv1 w1 := ⟨P1, hB1, by
    intro p hp
    simp at hp
    subst hp
    exact bp0_ok hm⟩
  clear P1 hb1 hB1 P0 bF hT ep
  generalize w.heap.size + 1 + 1 = bx at *
  generalize w.heap.size + 1 = bm at *
  clear hW
  obtain ⟨i0, hi, hz0, hz1, hz2⟩ := info_parts ruleInfo
  go_wp2
  go_loopw [9] (fun i wr => ∃ (k : Nat) (s : List BP × List RuleD) (rv pv : Value), i = .int .i64 k ∧ BldAt (actB m) bp0 N k s ∧ InBi w m N bx bm s rv pv wr) (fun i _ => 1001 - (intOf i).toNat)
  case atStart => exact ⟨0, ([bp0], []), _, _, rfl, BldAt.start _ _ _, HI⟩
  case round =>
    clear HI
    obtain ⟨k, s, rv, pv, rfl, hB, inv⟩ := hrel
    have hk1 := hB.le
    have hk2 := hB.most
    obtain ⟨Ap, cp, rfl, _, _, _⟩ := (ownsRow_row inv.st.places).form
    have c3 := inv.st.blk.cell 3
    simp only [List.getElem?_toArray, List.getElem?_cons_zero, List.getElem?_cons_succ] at c3
    by_cases hlt : k < s.1.length
    · obtain ⟨p, hp⟩ : ∃ p, s.1[k]? = some p := ⟨s.1[k], List.getElem?_eq_getElem hlt⟩
      have hpo : BiOk m p := inv.ok p (List.mem_of_getElem? hp)
      go_wp2
      go_loopw [31] (fun i wr' => ∃ (j : Nat) (rv pv : Value), j ≤ N ∧ i = .int .i64 j ∧ InBi w m N bx bm (rowTo (actB m) p s j) rv pv wr') (fun i _ => N - (intOf i).toNat)
      case atStart => exact ⟨0, _, _, Nat.zero_le _, rfl, inv⟩
      case round =>
        clear inv c3
        obtain ⟨j, rv, pv, hj, rfl, inv⟩ := hrel
        by_cases hjn : j < N
        · go_wp2_with fail
          refine (noRule_c _).mono ?_
          rintro e w2 ⟨rfl, hx2⟩
          have fv0 : (0 : Int) ≤ (j : Int) := by omega
          have fv1 : (j : Int) < 2 := by have := HN.out; omega
          have hpj : (rowTo (actB m) p s j).1[k]? = some p := by
            obtain ⟨t, ht⟩ := rowTo_prefix (actB m) p s j
            rw [← ht, List.getElem?_append_left hlt]; exact hp
          have hlen : (rowTo (actB m) p s j).1.length ≤ 1006 ∧ (rowTo (actB m) p s j).2.length ≤ 6600 := by
            have h1 := rowTo_length (actB m) p s j
            have h2 := hB.rules
            have h3 : k * N ≤ 1000 * 6 := Nat.mul_le_mul (by omega) n6
            omega
          obtain ⟨hlen1, htl⟩ := hlen
          have HRT : Hid (rowTo (actB m) p s (j + 1) = symStep (actB m) p (rowTo (actB m) p s j) j) := rfl
          have HRO : Hid (∀ y ∈ (rowTo (actB m) p s (j + 1)).1, BiOk m y) := rowTo_all (N := N) (fun y hy => inv.ok y (List.IsPrefix.subset (rowTo_prefix (actB m) p s j) hy)) (fun n hn hno => (actB_ok hm hpo (by omega) (by have := HN.out; omega) hno).1) (j + 1) (by omega)
          generalize rowTo (actB m) p s j = t at *
          have hkt : k < t.1.length := (List.getElem?_eq_some_iff.1 hpj).1
          have inv2 := inv.ext hx2
          obtain ⟨V, hV⟩ : ∃ V, V = w2.alloc (.cells #[.int .i64 0, .int .i64 0, .int .i64 (-1)] 98) := ⟨_, rfl⟩
          have hXV : Ext w2 V := by rw [hV]; exact Ext.alloc _ _
          have inv3 := inv2.ext hXV
          have bR : Blk V w2.heap.size 98 #[.int .i64 0, .int .i64 0, .int .i64 (-1)] := by rw [hV]; exact Blk.new _ _ _ _ rfl
          obtain ⟨Ap, cp, rfl, _, _, _⟩ := (ownsRow_row inv3.st.places).form
          obtain ⟨gp, rfl, hgp1, hgp2, ac⟩ := placesB_at inv3.st.places hpj
          have a0 := ac 0 (by omega)
          have a1 := ac 1 (by omega)
          have a2 := ac 2 (by omega)
          have a3 := ac 3 (by omega)
          have c3 := inv3.st.blk.cell 3
          simp only [List.getElem?_toArray, List.getElem?_cons_zero, List.getElem?_cons_succ, Nat.add_zero] at c3 a0 a1 a2 a3
          rw [hV] at c3 a0 a1 a2 a3
          go_wp2_with fail
          rw [← hV]
          clear c3 a0 a1 a2 a3 ac
          refine (binAct_c b gb m p j V (hM.ext inv3.below) hm hpo fv0 fv1).mono ?_
          rintro e w3 ⟨rfl, hx3⟩
          have inv4 := inv3.ext hx3
          have bR4 := bR.ext hx3
          cases hno : (actB m p j).no with
          | true =>
            have HRT2 := Lib.hid (HRT.out.trans (symStep_no hno))
            rw [HRT2.out] at HRO
            clear HRT
            generalize actB m p j = a at *
            obtain ⟨aw, am, ⟨ak, aa, ab, ac⟩, ano⟩ := a
            simp only at hno
            subst hno
            obtain ⟨U, hU⟩ : ∃ U, U = w3.alloc (.cells #[.int .i64 aw, .int .i64 am, .int .i64 ak, .int .i64 aa, .int .i64 ab, .int .i64 ac, .bool true] 108) := ⟨_, rfl⟩
            have hXU : Ext w3 U := by rw [hU]; exact Ext.alloc _ _
            have inv5 := inv4.ext hXU
            have bR5 := bR4.ext hXU
            simp only [ActB]
            go_wp2_with fail
            rw [← hU]
            clear hU

            have hrl : OwnRules w.heap.size U rv t.2 := inv5.st.rules
            obtain ⟨Ar, cr, rfl, _, _, _⟩ := (ownsRow_row hrl).form
            have eA := (Ext.alloc U (.cells #[.int .i64 0, .int .i64 0, .int .i64 (-1)] 98)).trans (Ext.drew _)
            have I6 := inv5.ext eA
            have c2' := (inv5.st.blk.alloc (.cells #[.int .i64 0, .int .i64 0, .int .i64 (-1)] 98)).cell 2
            have c2 := inv5.st.blk.cell 2
            have q0 := bR5.cell 0
            have q1 := bR5.cell 1
            have q2 := bR5.cell 2
            simp only [List.getElem?_toArray, List.getElem?_cons_zero, List.getElem?_cons_succ] at c2 c2' q0 q1 q2
            have hsU := Ext.size inv5.below
            go_region_law ((refine step_append_lies _ (by rfl) _ _ _ (by rfl) w.heap.size 98 i0 _ 3 24 Tryz.underlying33 hi hz0 hz1 hz2 rfl (by omega) _ _ (rvs t.2) (by first | rfl | simp [Act.eval, Act.put]) (OwnRules.ext hrl eA) ⟨(U).heap.size, 0, none⟩ 1 1 [.int .i64 0, .int .i64 0, .int .i64 (-1)] (by first | rfl | simp [Act.eval, Act.put]) rfl (World.news_of_block (w := ((U).alloc (.cells #[.int .i64 0, .int .i64 0, .int .i64 (-1)] 98)).drew) (heap_alloc_new (U) _)) (by simp [Value.oneCell']) (by omega) (by unfold maxLen; omega) (by omega) (by simp; omega) ((U).heap.size + 1) (by simp) ?_; intro g cap w7 hown7 hg7 hat7 hlt7; have I7 := I6.ruled (r := ⟨0, 0, (-1)⟩) hown7 hg7; have B7 := Blk.apart I6.st.blk I6.st.rules (by decide) hg7; have z2 := B7.cell 2; have f2 := B7.frozen 2; simp only [List.getElem?_toArray, List.getElem?_cons_zero, List.getElem?_cons_succ] at z2))
            all_goals
              try go_wp2
              go_roundw
              case rel => exact ⟨j + 1, _, _, by omega, by go_num, by rw [HRT2.out]; exact I7⟩
              case measure => simp [intOf]; omega
          | false =>
            have HRT2 := Lib.hid (HRT.out.trans (symStep_yes hno))
            have hap := (actB_ok hm hpo fv0 fv1 hno).1
            have sm1 : SmBi (actB m p j).p := hap.small hm
            rw [HRT2.out] at HRO
            clear HRT
            generalize actB m p j = a at *
            obtain ⟨aw, am, ap, ano⟩ := a
            simp only at hno
            subst hno
            obtain ⟨U, hU⟩ : ∃ U, U = w3.alloc (.cells #[.int .i64 aw, .int .i64 am, .int .i64 ap.k, .int .i64 ap.a, .int .i64 ap.b, .int .i64 ap.c, .bool false] 108) := ⟨_, rfl⟩
            have hXU : Ext w3 U := by rw [hU]; exact Ext.alloc _ _
            have inv5 := inv4.ext hXU
            have bR5 := bR4.ext hXU
            have bA5 : Blk U w3.heap.size 108 #[.int .i64 aw, .int .i64 am, .int .i64 ap.k, .int .i64 ap.a, .int .i64 ap.b, .int .i64 ap.c, .bool false] := by rw [hU]; exact Blk.new _ _ _ _ rfl
            simp only [ActB]
            go_wp2_with fail
            rw [← hU]
            clear hU
            have a0 := bA5.cell 0
            have a1 := bA5.cell 1
            have a2 := bA5.cell 2
            have a3 := bA5.cell 3
            have a4 := bA5.cell 4
            have a5 := bA5.cell 5
            simp only [List.getElem?_toArray, List.getElem?_cons_zero, List.getElem?_cons_succ] at a0 a1 a2 a3 a4 a5
            have Id := inv5.ext (Ext.drew U)
            have hsU := Ext.size Id.below
            have hnum := numberB_c w.heap.size U.drew bx N 0 t.2 t.1 ap rv _ bm Id.st hsU (by omega) sm1
            simp only [BP.v] at hnum
            go_region_law ((go_simp; go_at_call 94; ((with_reducible refine hnum.mono ?_)); rintro e w6 ⟨rfl, ⟨pv6, P6⟩, hb6, hk6⟩; have bA6 := hk6 _ _ _ bA5.drew (by decide) (by decide); have bR6 := hk6 _ _ _ bR5.drew (by decide) (by decide); have d0 := bA6.cell 0; have d1 := bA6.cell 1; have e0 := bR6.cell; have f0 := bR6.frozen; simp only [List.getElem?_toArray, List.getElem?_cons_zero, List.getElem?_cons_succ] at d0 d1))
            all_goals
              obtain ⟨U7, hU7⟩ : ∃ U7, U7 = ((w6.setCell ⟨w2.heap.size, 0, none⟩ (.int .i64 aw)).setCell ⟨w2.heap.size, 1, none⟩ (.int .i64 am)).setCell ⟨w2.heap.size, 2, none⟩ (.int .i64 ((addP t.1 ap).idxOf ap : Nat)) := ⟨_, rfl⟩
              have bR7 : Blk U7 w2.heap.size 98 #[.int .i64 aw, .int .i64 am, .int .i64 ((addP t.1 ap).idxOf ap : Nat)] := by rw [hU7]; exact ((bR6.set_ 0 _).set_ 1 _).set_ 2 _
              have I7' : InBi w m N bx bm (addP t.1 ap, t.2) rv pv6 U7 := by
                have hlow : w.heap.size ≤ w2.heap.size := Ext.size inv2.below
                have hne : ∀ k, rv.ownBlock = some k → k ≠ w2.heap.size := fun k hk => by
                  have h1 := (World.ownsRow.lt inv.st.rules k hk).2
                  have h2 := hx2.size
                  omega
                rw [hU7]
                have q1 := P6.store bR6 hne (p := ⟨w2.heap.size, 0, none⟩) rfl (.int .i64 aw)
                have q2 := q1.store (bR6.set_ 0 _) hne (p := ⟨w2.heap.size, 1, none⟩) rfl (.int .i64 am)
                have q3 := q2.store ((bR6.set_ 0 _).set_ 1 _) hne (p := ⟨w2.heap.size, 2, none⟩) rfl (.int .i64 ((addP t.1 ap).idxOf ap : Nat))
                exact ⟨q3, (((Below.trans Id.below hb6).setCell hlow _).setCell hlow _).setCell hlow _, HRO.out⟩
              rw [← hU7]
              clear hU7 e0 f0 d0 d1 hnum
              try go_wp2_with fail
              have hrl : OwnRules w.heap.size U7 rv t.2 := I7'.st.rules
              obtain ⟨Ar, cr, rfl, _, _, _⟩ := (ownsRow_row hrl).form
              have eA := (Ext.alloc U7 (.cells #[.int .i64 aw, .int .i64 am, .int .i64 ((addP t.1 ap).idxOf ap : Nat)] 98)).trans (Ext.drew _)
              have I6 := I7'.ext eA
              have c2' := (I7'.st.blk.alloc (.cells #[.int .i64 aw, .int .i64 am, .int .i64 ((addP t.1 ap).idxOf ap : Nat)] 98)).cell 2
              have c2 := I7'.st.blk.cell 2
              have q0 := bR7.cell 0
              have q1 := bR7.cell 1
              have q2 := bR7.cell 2
              simp only [List.getElem?_toArray, List.getElem?_cons_zero, List.getElem?_cons_succ] at c2 c2' q0 q1 q2
              have hsU := Ext.size I7'.below
              go_region_law ((refine step_append_lies _ (by rfl) _ _ _ (by rfl) w.heap.size 98 i0 _ 3 24 Tryz.underlying33 hi hz0 hz1 hz2 rfl (by omega) _ _ (rvs t.2) (by first | rfl | simp [Act.eval, Act.put]) (OwnRules.ext hrl eA) ⟨(U7).heap.size, 0, none⟩ 1 1 [.int .i64 aw, .int .i64 am, .int .i64 ((addP t.1 ap).idxOf ap : Nat)] (by first | rfl | simp [Act.eval, Act.put]) rfl (World.news_of_block (w := ((U7).alloc (.cells #[.int .i64 aw, .int .i64 am, .int .i64 ((addP t.1 ap).idxOf ap : Nat)] 98)).drew) (heap_alloc_new (U7) _)) (by simp [Value.oneCell']) (by omega) (by unfold maxLen; omega) (by omega) (by simp; omega) ((U7).heap.size + 1) (by simp) ?_; intro g cap w7 hown7 hg7 hat7 hlt7; have I7 := I6.ruled (r := ⟨aw, am, ((addP t.1 ap).idxOf ap : Nat)⟩) hown7 hg7; have B7 := Blk.apart I6.st.blk I6.st.rules (by decide) hg7; have z2 := B7.cell 2; have f2 := B7.frozen 2; simp only [List.getElem?_toArray, List.getElem?_cons_zero, List.getElem?_cons_succ] at z2))
              all_goals
                try go_wp2
                go_roundw
                case rel => exact ⟨j + 1, _, _, by omega, by go_num, by rw [HRT2.out]; exact I7⟩
                case measure => simp [intOf]; omega
        · have hjN : j = N := by omega
          subst hjN
          obtain ⟨Ap, cp, rfl, _, _, _⟩ := (ownsRow_row inv.st.places).form
          have c3 := inv.st.blk.cell 3
          simp only [List.getElem?_toArray, List.getElem?_cons_zero, List.getElem?_cons_succ] at c3
          have HOK := Lib.hid inv.ok
          by_cases hmost : (rowTo (actB m) p s j).1.length ≤ 1000
          · have HBN := Lib.hid (hB.step hlt hp hmost)
            clear hB
            generalize rowTo (actB m) p s j = t at *
            go_wp2
            go_roundw
            case rel => exact ⟨k + 1, t, rv, _, by go_num, HBN.out, inv⟩
            case measure => simp [intOf]; omega
          · have HBN := Lib.hid (hB.fails hlt hp (by omega))
            clear hB
            generalize rowTo (actB m) p s j = t at *
            go_wp2
            go_ret2
            exact ⟨.inl ⟨HB.out.trans HBN.out, rfl⟩, inv.below⟩
    · have HBN := Lib.hid (hB.ends hlt)
      have one := hB.one
      clear hB
      have f1 := inv.st.blk.frozen 1
      have c1 := inv.st.blk.cell 1
      simp only [List.getElem?_toArray, List.getElem?_cons_zero, List.getElem?_cons_succ] at c1
      go_wp2_with fail
      refine (sizeBp_c _ _ _ _ (ownsRow_row inv.st.places)).mono ?_
      rintro e w' ⟨rfl, rfl⟩
      go_wp2
      go_ret2
      have hgs := grownBy_setCell wr ⟨bx, 1, none⟩ (.int .i64 (s.1.length : Nat))
      refine ⟨.inr ⟨s, bx, bm, rv, _, HB.out.trans HBN.out, rfl, ⟨?_, own_kept inv.st.rules hgs (blk_ne_row inv.st.blk inv.st.rules (by decide)), own_kept inv.st.places hgs (blk_ne_row inv.st.blk inv.st.places (by decide)), inv.st.tbl.setCell (a := ⟨bx, 1, none⟩) (inv.st.tbl.ne_blk inv.st.blk) _, inv.st.lowX, inv.st.lowM⟩, inv.ok, one, hk2⟩, Below.setCell inv.below inv.st.lowX _⟩
      have := inv.st.blk.set_ 1 (.int .i64 (s.1.length : Nat))
      rw [HN.out]
      exact this
end Go.Proofs.YthhjbmlkncdigaaGreatDoor
end
section
set_option linter.unusedSimpArgs false
set_option linter.unusedVariables false
namespace Go.Proofs.YthhjbmlkncdigaaGreatDoor
open Go Go.RowKit Go.Proofs Go.Maps
set_option maxHeartbeats 400000
/-- A configuration and a code that a call gives; the sides are in memory of its own, from base on. -/
def PlaRes (base : Nat) (w : World) (r : ConfD × Int) (e : Ending) (w' : World) : Prop :=
  ∃ lv rv, e = .returned (.tuple #[.agg #[.int .i64 r.1.q, lv, rv], .int .i64 r.2]) ∧ OwnInts base w' lv r.1.l ∧ OwnInts base w' rv r.1.r ∧ (∀ g, lv.ownBlock = some g → rv.ownBlock ≠ some g) ∧ Ext w w'
/-- The configuration in a place. -/
def plaBi (sy st : Int) (rs : List RuleD) (ps : List BP) (x : BP) (L R : List Int) : ConfD × Int :=
  if x ∈ ps then (if confB ⟨sy, st, rs⟩ ⟨(ps.idxOf x : Nat), trim L, trim R⟩ then (⟨(ps.idxOf x : Nat), trim L, trim R⟩, 0) else (blankC, 5)) else (blankC, 6)
theorem startBi_pla (m : MachD) (c : ConfD) : startBi m c = match binB m with
  | none => (blankC, 5)
  | some s => plaBi 2 s.1.length s.2 s.1 ⟨0, c.q, 0, 0⟩ (codesR (bitsD m.sy) c.l) (codesB (bitsD m.sy) c.r) := rfl
theorem OwnInts.trimmed {base : Nat} {w : World} {A : Option Addr} {c : Nat} {zs : List Int} (h : OwnInts base w (.slice A zs.length c) zs) : OwnInts base w (.slice A (trimN zs zs.length) c) (trim zs) := by
  have hk := trimN_le zs zs.length
  by_cases hA : A = none
  · subst hA
    have : zs.length = 0 ∧ c = 0 := by
      rcases h.2 with ⟨e, _⟩ | ⟨g, cap, cur, e, _⟩
      · injection e with e1 e2 e3; exact ⟨e2, e3⟩
      · injection e with e1 e2 e3; cases e1
    have hz : zs = [] := List.length_eq_zero_iff.1 this.1
    subst hz
    rw [this.2]
    exact World.ownsRow_nil ..
  · exact h.take _ hk hA
theorem slice_own {A : Option Addr} {n k c g : Nat} (h : (Value.slice A k c).ownBlock = some g) : (Value.slice A n c).ownBlock = some g := by
  cases A with
  | none => simp [Value.ownBlock] at h
  | some p => simpa [Value.ownBlock] using h
def BinRes (w : World) (m : MachD) (e : Ending) (w' : World) : Prop :=
  ((binB m = none ∧ e = .returned (.tuple #[.pointer none, .bool false])) ∨
    ∃ s bx bm rv pv, binB m = some s ∧ e = .returned (.tuple #[.pointer (some ⟨bx, 0, none⟩), .bool true]) ∧ PlBi w.heap.size w' bx 2 s.1.length s.2 s.1 rv pv bm ∧ (∀ p ∈ s.1, BiOk m p) ∧ 1 ≤ s.1.length ∧ s.1.length ≤ 1000) ∧ Ext w w'
set_option maxHeartbeats 1000000 in
set_option maxRecDepth 20000 in
theorem binary_c (mv : Value) (m : MachD) (w : World) (hM : Mach w mv m) (hm : machOk m = true) :
    Calls Tryz.prog 31 #[mv] w (BinRes w m) := by
  obtain ⟨s1, s2, s3, s4, hl⟩ := machOk_all hm
  obtain ⟨rv, rfl, hr⟩ := hM
  obtain ⟨A, c, rfl, _, _⟩ := hr.form
  obtain ⟨W, hW⟩ : ∃ W, W = w.alloc (.cells #[.int .i64 m.sy, .int .i64 m.st, .slice A m.rules.length c] 35) := ⟨_, rfl⟩
  have hXW : Ext w W := by rw [hW]; exact Ext.alloc _ _
  have bM : Blk W w.heap.size 35 #[.int .i64 m.sy, .int .i64 m.st, .slice A m.rules.length c] := by rw [hW]; exact Blk.new _ _ _ _ rfl
  obtain ⟨k, hk⟩ : ∃ k, w.heap.size = k := ⟨_, rfl⟩
  have BO := bitsOf_c (.agg #[.int .i64 m.sy, .int .i64 m.st, .slice A m.rules.length c]) m W ⟨_, rfl, hr.ext hXW⟩ s2
  have hks : k ≤ W.heap.size := by have := hXW.size; omega
  rw [hk] at bM
  go_enter Tryz.func31, Tryz.ntmps31
  go_wp2_with fail
  rw [← hW]
  try rw [hk]
  clear hW
  refine BO.mono ?_
  rintro e w1 ⟨rfl, hx1⟩
  have bM1 := bM.ext hx1
  obtain ⟨g, hg⟩ : ∃ g, w1.heap.size = g := ⟨_, rfl⟩
  obtain ⟨V, hV⟩ : ∃ V, V = w1.alloc (.cells #[.int .i64 (bitsD m.sy)] 2) := ⟨_, rfl⟩
  have hXV : Ext w1 V := by rw [hV]; exact Ext.alloc _ _
  have bG : Blk V g 2 #[.int .i64 (bitsD m.sy)] := by rw [hV]; exact Blk.new _ _ _ _ hg
  have hr1 := hr.ext ((hXW.trans hx1).trans hXV)
  have bM2 := bM1.ext hXV
  clear BO bM bM1
  generalize hB : bitsD m.sy = B at *
  go_wp2_with fail
  try rw [← hV]
  try rw [hg]
  clear hV
  refine (startOf_c 0 _).mono ?_
  rintro e w2 ⟨rfl, hx2⟩
  subst hB
  have hbd := buildBi_c w2 k g m ⟨⟨_, bM2.ext hx2, hr1.ext hx2⟩, bG.ext hx2⟩ hm
  simp only [bp0, BP.v] at hbd
  simp only [BP.v]
  have hX2 := ((hXW.trans hx1).trans hXV).trans hx2
  go_wp2_with fail
  refine hbd.mono ?_
  rintro e w3 ⟨hres, hx3⟩
  have hX := hX2.trans hx3
  rcases hres with ⟨hn, rfl⟩ | ⟨s, bx, bm, rv1, pv1, hs, rfl, hst, hok, l1, l2⟩
  · go_wp2
    go_ret2
    exact ⟨.inl ⟨hn, rfl⟩, hX⟩
  · have hst' : PlBi w.heap.size w3 bx 2 s.1.length s.2 s.1 rv1 pv1 bm :=
      ⟨hst.blk, ownsRow_base hst.rules hX2.size, ownsRow_base hst.places hX2.size, hst.tbl, Nat.le_trans hX2.size hst.lowX, Nat.le_trans hX2.size hst.lowM⟩
    go_wp2
    go_ret2
    exact ⟨.inr ⟨s, bx, bm, rv1, pv1, hs, rfl, hst', hok, l1, l2⟩, hX⟩
set_option maxRecDepth 20000 in
set_option maxHeartbeats 4000000 in
theorem placedBi_c (base base0 : Nat) (w : World) (bx : Nat) (sy st : Int) (rs : List RuleD) (ps : List BP) (x : BP) (rv pv : Value) (bm : Nat) (L R : List Int) (lv qv : Value)
    (h : PlBi base0 w bx sy st rs ps rv pv bm) (hl : OwnInts base w lv L) (hq : OwnInts base w qv R) (hap : ∀ g, lv.ownBlock = some g → qv.ownBlock ≠ some g) (hL : L.length ≤ 1048576) (hR : R.length ≤ 1048576)
    (hsm : SmBi x) (s1 : 2 ≤ sy) (s2 : sy ≤ 6) (t1 : 1 ≤ st) (t2 : st ≤ 1000) :
    Calls Tryz.prog 58 #[.pointer (some ⟨bx, 0, none⟩), x.v, lv, qv] w (PlaRes base w (plaBi sy st rs ps x L R)) := by
  have hk := biKey x hsm
  obtain ⟨Al, cl, rfl, _, _⟩ := hl.ints.form
  obtain ⟨Aq, cq, rfl, _, _⟩ := hq.ints.form
  obtain ⟨W, hW⟩ : ∃ W, (w.alloc (.cells #[.int .i64 x.k, .int .i64 x.a, .int .i64 x.b, .int .i64 x.c] 80)).alloc (.cells #[.int .i64 0, .slice none 0 0, .slice none 0 0] 37) = W := ⟨_, rfl⟩
  have hXW : Ext w W := by rw [← hW]; exact (Ext.alloc _ _).trans (Ext.alloc _ _)
  have bX : Blk W w.heap.size 80 #[.int .i64 x.k, .int .i64 x.a, .int .i64 x.b, .int .i64 x.c] := by rw [← hW]; exact (Blk.new _ _ _ _ rfl).alloc _
  have bO : Blk W (w.heap.size + 1) 37 #[.int .i64 0, .slice none 0 0, .slice none 0 0] := by rw [← hW]; exact Blk.new _ _ _ _ (by simp)
  have H := h.ext hXW
  have hlook := fun d os => (H.ext (below_regrown W d os)).tbl.lookup2 biTy x hk
  simp only [BP.v] at hlook ⊢
  have k2 := H.blk.cell 4
  have y0 := bX.cell 0
  have y1 := bX.cell 1
  have y2 := bX.cell 2
  have y3 := bX.cell 3
  simp only [List.getElem?_toArray, List.getElem?_cons_zero, List.getElem?_cons_succ] at k2 y0 y1 y2 y3
  have d4 := cellR k2
  have z0 := cellR y0
  have z1 := cellR y1
  have z2 := cellR y2
  have z3 := cellR y3
  have hb1 : w.heap.size ≤ w.heap.size + 1 := by omega
  obtain ⟨nL, hnL⟩ : ∃ n, trimN L L.length = n := ⟨_, rfl⟩
  obtain ⟨nR, hnR⟩ : ∃ n, trimN R R.length = n := ⟨_, rfl⟩
  have hlO : OwnInts base w (.slice Al nL cl) (trim L) := by rw [← hnL]; exact hl.trimmed
  have hqO : OwnInts base w (.slice Aq nR cq) (trim R) := by rw [← hnR]; exact hq.trimmed
  have ap2 : ∀ g, (Value.slice Al nL cl).ownBlock = some g → (Value.slice Aq nR cq).ownBlock ≠ some g := fun g h1 h2 => hap g (slice_own h1) (slice_own h2)
  have nl : ∀ g, (Value.slice Al nL cl).ownBlock = some g → g ≠ w.heap.size + 1 := fun g hg => by have := (hlO.lt g hg).2; omega
  have nr : ∀ g, (Value.slice Aq nR cq).ownBlock = some g → g ≠ w.heap.size + 1 := fun g hg => by have := (hqO.lt g hg).2; omega
  have done : ∀ (w1 : World) (r : ConfD × Int) (lv rv : Value), Ext w w1 → OwnInts base w1 lv r.1.l → OwnInts base w1 rv r.1.r → (∀ g, lv.ownBlock = some g → rv.ownBlock ≠ some g) →
      (∀ g, lv.ownBlock = some g → g ≠ w.heap.size + 1) → (∀ g, rv.ownBlock = some g → g ≠ w.heap.size + 1) → ∀ x y z : Value,
      PlaRes base w r (.returned (.tuple #[.agg #[.int .i64 r.1.q, lv, rv], .int .i64 r.2])) (((w1.setCell ⟨w.heap.size + 1, 0, none⟩ x).setCell ⟨w.heap.size + 1, 1, none⟩ y).setCell ⟨w.heap.size + 1, 2, none⟩ z) :=
    fun _ _ _ _ hX h1 h2 h3 n1 n2 x y z => ⟨_, _, rfl, ownsRow_far (ownsRow_far (ownsRow_far h1 n1 _) n1 _) n1 _, ownsRow_far (ownsRow_far (ownsRow_far h2 n2 _) n2 _) n2 _, h3, ((hX.setCell hb1 _).setCell hb1 _).setCell hb1 _⟩
  have none_ : ∀ (w1 : World) (k : Int), Ext w w1 → ∀ x y z : Value, PlaRes base w (blankC, k) (.returned (.tuple #[.agg #[.int .i64 0, .slice none 0 0, .slice none 0 0], .int .i64 k])) (((w1.setCell ⟨w.heap.size + 1, 0, none⟩ x).setCell ⟨w.heap.size + 1, 1, none⟩ y).setCell ⟨w.heap.size + 1, 2, none⟩ z) :=
    fun _ k hX x y z => done _ (blankC, k) _ _ hX (World.ownsRow_nil ..) (World.ownsRow_nil ..) (fun g hg => by simp [Value.ownBlock] at hg) (fun g hg => by simp [Value.ownBlock] at hg) (fun g hg => by simp [Value.ownBlock] at hg) x y z
  have DN := Lib.hid done
  have NN := Lib.hid none_
  clear done none_
  obtain ⟨E, hE⟩ : ∃ E, E = plaBi sy st rs ps x L R := ⟨_, rfl⟩
  rw [← hE]
  have HE := Lib.hid hE
  clear hE
  by_cases hin : x ∈ ps
  · have hs : (numOf ps x).isSome = true := by simp [numOf, hin]
    rw [hs, idx_old hin] at hlook
    have HE2 : Hid (E = if confB ⟨sy, st, rs⟩ ⟨((ps.idxOf x : Nat) : Int), trim L, trim R⟩ then (⟨((ps.idxOf x : Nat) : Int), trim L, trim R⟩, 0) else (blankC, 5)) := by unfold Hid; rw [HE.out]; unfold plaBi; rw [if_pos hin]
    obtain ⟨q, hq0⟩ : ∃ q : Int, ((ps.idxOf x : Nat) : Int) = q := ⟨_, rfl⟩
    have eq2 : ((addP ps x).idxOf x : Int) = q := by rw [addP_old hin]; exact hq0
    rw [hq0] at HE2
    try rw [eq2] at hlook
    try rw [hq0] at hlook
    clear hq0 hin hs eq2
    go_enter Tryz.func58, Tryz.ntmps58
    go_wp2_with fail
    try rw [hW]
    clear hW
    refine wp_region_ext (by kernel_rfl) (by kernel_rfl) ?_
    repeat (go_big_quiet_step (fail))
    refine wpQuiet_nil ?_
    intro w1 hx1
    have hX1 := hXW.trans hx1
    go_wp2_with fail
    refine (trimmed_c _ L w1 (hl.ints.ext hX1) hL).mono ?_
    rw [hnL]
    rintro e w' ⟨⟨A1, c1, ea, rfl⟩, rfl⟩
    injection ea with ea1 ea2 ea3
    subst ea1 ea3
    go_wp2_with fail
    refine (trimmed_c _ R w1 (hq.ints.ext hX1) hR).mono ?_
    rw [hnR]
    rintro e w' ⟨⟨A2, c2, eb, rfl⟩, rfl⟩
    injection eb with eb1 eb2 eb3
    subst eb1 eb3
    obtain ⟨V, hV⟩ : ∃ V, w1.alloc (.cells #[.int .i64 q, .slice Al nL cl, .slice Aq nR cq] 37) = V := ⟨_, rfl⟩
    have hXV : Ext w1 V := by rw [← hV]; exact Ext.alloc _ _
    have bC : Blk V w1.heap.size 37 #[.int .i64 q, .slice Al nL cl, .slice Aq nR cq] := by rw [← hV]; exact Blk.new _ _ _ _ rfl
    obtain ⟨g, hg⟩ : ∃ g, w1.heap.size = g := ⟨_, rfl⟩
    rw [hg] at bC
    have hX2 := hX1.trans hXV
    have H2 := h.ext hX2
    obtain ⟨Av, cv, rfl, _, _⟩ := H2.rules.rules.form
    have e0 := bC.cell 0
    have e1 := bC.cell 1
    have e2 := bC.cell 2
    have m0 := H2.blk.cell 0
    have m1 := H2.blk.cell 1
    have m2 := H2.blk.cell 2
    simp only [List.getElem?_toArray, List.getElem?_cons_zero, List.getElem?_cons_succ] at e0 e1 e2 m0 m1 m2
    have hlI := hlO.ints
    have hqI := hqO.ints
    have CC := fun d os => configOf_c (.agg #[.int .i64 sy, .int .i64 st, .slice Av rs.length cv]) (.agg #[.int .i64 q, .slice Al nL cl, .slice Aq nR cq]) ⟨sy, st, rs⟩ ⟨q, trim L, trim R⟩ _ ⟨_, rfl, H2.rules.rules.ext (below_regrown V d os)⟩ ⟨_, _, rfl, (hlI.ext hX2).ext (below_regrown V d os), (hqI.ext hX2).ext (below_regrown V d os)⟩ s1 s2 t1 t2
    have d0 := cellR m0
    have d1 := cellR m1
    have d2 := cellR m2
    have f0 := cellR e0
    have f1 := cellR e1
    have f2 := cellR e2
    have bO2 := (bO.ext hx1).ext hXV
    have oL2 := hlO.ext hX2
    have oR2 := hqO.ext hX2
    clear m0 m1 m2 d4 z0 z1 z2 z3 y0 y1 y2 y3 k2 hlook hlO hqO hlI hqI
    cases hc : confB ⟨sy, st, rs⟩ ⟨q, trim L, trim R⟩ with
    | false =>
      have HE3 : Hid (E = (blankC, 5)) := by unfold Hid; rw [HE2.out, hc]; rfl
      simp only [hc] at CC
      clear hc hnL hnR
      go_wp2_with fail
      try rw [hV]
      clear hV
      refine wp_region_ext (by kernel_rfl) (by kernel_rfl) ?_
      repeat (go_big_quiet_step ((go_at_call 56; exact Calls.extR (CC _ _))))
      refine wpQuiet_nil ?_
      intro w3 hx3
      have ob := (bO2.ext hx3).cell
      have of_ := (bO2.ext hx3).frozen
      go_wp2
      rw [HE3.out]
      exact bodyPost_ret (v := .tuple #[.agg #[.int .i64 0, .slice none 0 0, .slice none 0 0], .int .i64 5]) (by simp [results, Tryz.results58, go_sem, ob]) rfl (NN.out _ 5 (hX2.trans hx3) _ _ _)
    | true =>
      have HE3 : Hid (E = (⟨q, trim L, trim R⟩, 0)) := by unfold Hid; rw [HE2.out, hc]; rfl
      simp only [hc] at CC
      clear hc hnL hnR
      go_wp2_with fail
      try rw [hV]
      clear hV
      refine wp_region_ext (by kernel_rfl) (by kernel_rfl) ?_
      repeat (go_big_quiet_step ((go_at_call 56; exact Calls.extR (CC _ _))))
      refine wpQuiet_nil ?_
      intro w3 hx3
      have ob := (bO2.ext hx3).cell
      have of_ := (bO2.ext hx3).frozen
      have e0 := hx3.cell e0
      have e1 := hx3.cell e1
      have e2 := hx3.cell e2
      go_wp2
      rw [HE3.out]
      exact bodyPost_ret (v := .tuple #[.agg #[.int .i64 q, .slice Al nL cl, .slice Aq nR cq], .int .i64 0]) (by simp [results, Tryz.results58, go_sem, ob]) rfl (DN.out _ (⟨q, trim L, trim R⟩, 0) _ _ (hX2.trans hx3) (oL2.ext hx3) (oR2.ext hx3) ap2 nl nr _ _ _)
  · have hs : (numOf ps x).isSome = false := by simp [numOf, hin]
    have hs0 : (numOf ps x).getD 0 = 0 := by simp [numOf, hin]
    rw [hs, hs0] at hlook
    have HE2 : Hid (E = (blankC, 6)) := by unfold Hid; rw [HE.out]; unfold plaBi; rw [if_neg hin]
    clear hs hs0 hin
    go_enter Tryz.func58, Tryz.ntmps58
    go_wp2_with fail
    try rw [hW]
    clear hW
    refine wp_region_ext (by kernel_rfl) (by kernel_rfl) ?_
    repeat (go_big_quiet_step (fail))
    refine wpQuiet_nil ?_
    intro w1 hx1
    have ob := (bO.ext hx1).cell
    have of_ := (bO.ext hx1).frozen
    go_wp2
    rw [HE2.out]
    exact bodyPost_ret (v := .tuple #[.agg #[.int .i64 0, .slice none 0 0, .slice none 0 0], .int .i64 6]) (by simp [results, Tryz.results58, go_sem, ob]) rfl (NN.out _ 6 (hXW.trans hx1) _ _ _)
end Go.Proofs.YthhjbmlkncdigaaGreatDoor
end
