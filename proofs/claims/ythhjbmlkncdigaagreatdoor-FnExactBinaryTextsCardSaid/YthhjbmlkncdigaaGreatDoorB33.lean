/- Contracts of the laws' sizes and copies of lists of numbers. Lists are short.
Contracts of the laws' copies, comparisons and marks of configurations. Lists are short; the marks stay below 2 to the power of 62.
Contracts on configurations that calls have made. -/
import Derived.Test.YthhjbmlkncdigaaGreatDoorB02
import Derived.Test.YthhjbmlkncdigaaGreatDoorB03
import Derived.Test.YthhjbmlkncdigaaGreatDoorB06
section
namespace Go.Proofs.YthhjbmlkncdigaaGreatDoor
open Go Go.RowKit Go.Proofs
set_option maxHeartbeats 400000
/-- What is left of a size. -/
def szF (left : Int) (n : Nat) : Int := if left < n then -1 else left - n
theorem szF_no {left : Int} {n : Nat} (h : left < n) : szF left n = -1 := if_pos h
theorem szF_yes {left : Int} {n : Nat} (h : ¬ left < n) : szF left n = left - n := if_neg h
theorem szInt64S_c (v : Value) (zs : List Int) (left : Int) (w : World) (h : Ints w v zs) (h0 : 0 ≤ left) (h1 : left ≤ 1048576) :
    Calls Tryz.prog 18 #[v, .int .i64 left] w fun e w' => e = .returned (.int .i64 (szF left zs.length)) ∧ w = w' := by
  obtain ⟨A, c, rfl, h2, h3⟩ := h.form
  by_cases hl : left < zs.length
  · rw [szF_no hl]
    go_enter Tryz.func18, Tryz.ntmps18
    go_wp2
    go_ret
    exact ⟨by simp, rfl⟩
  · rw [szF_yes hl]
    go_enter Tryz.func18, Tryz.ntmps18
    go_wp2
    go_ret
    exact ⟨by simp, rfl⟩
theorem filled1_step {zs : List Int} {k : Nat} {xs : List Value} (h : xs.take k = ivs (zs.take k)) (hk : k < zs.length) (hx : xs.length = zs.length) : (xs.set k (.int .i64 zs[k])).take (k + 1) = ivs (zs.take (k + 1)) := by
  rw [take_set_snoc xs k _ (by omega), h, List.take_succ_eq_append_getElem hk, ivs_append]
  rfl
theorem filled1_end {zs : List Int} {k : Nat} {xs : List Value} (h : xs.take k = ivs (zs.take k)) (hk : zs.length ≤ k) (hx : xs.length = zs.length) : xs = ivs zs := by
  rwa [List.take_of_length_le (by omega), List.take_of_length_le hk] at h
def Filled1 (zs : List Int) (k : Nat) (xs : List Value) : Prop := xs.take k = ivs (zs.take k)
theorem toInt64S_c (v : Value) (zs : List Int) (w : World) (h : Ints w v zs) (hn : zs.length ≤ 1048576) :
    Calls Tryz.prog 27 #[v] w fun e w' => ∃ u, e = .returned u ∧ OwnInts w.heap.size w' u zs ∧ Ext w w' := by
  obtain ⟨A, c, rfl, h2, h3⟩ := h.form
  obtain ⟨i0, hi, hz0, hz1, hz2⟩ := info_parts intInfo
  go_enter Tryz.func27, Tryz.ntmps27
  go_wp2_with (at_make; refine wpList_make_full _ rfl _ _ 25 rfl w.heap.size 2 i0 _ 1 Tryz.underlying25 hi hz0 hz1 .i64 .i64 _ _ zs.length rfl rfl rfl rfl ?c1 ?c2 ?c3 ?_)
  case c1 => rw [hz2]; omega
  case c2 => unfold maxLen; omega
  case c3 => exact Nat.le_refl _
  intro w1 hown hgr
  have hx1 : Ext w w1 := (Ext.refl _).grown hgr (by simp)
  obtain ⟨cs, hown⟩ : ∃ cs, w1.ownsRow w.heap.size 2 1 (.slice (some ⟨w.heap.size, 0, none⟩) zs.length zs.length) zs.length cs := ⟨_, hown⟩
  clear hgr hi hz0 hz1 hz2
  have hsz : w.heap.size < w1.heap.size := (hown.lt _ rfl).2
  generalize hg : w.heap.size = g at *
  have HG := Lib.hid hg
  clear hg
  go_wp2
  go_loopw [4] (fun i wr => ∃ k : Nat, k ≤ zs.length ∧ i = .int .i64 k ∧ Ext w wr ∧ ∃ xs, wr.ownsRow g 2 1 (.slice (some ⟨g, 0, none⟩) zs.length zs.length) zs.length xs ∧ Filled1 zs k xs) (fun i _ => zs.length - (intOf i).toNat)
  case atStart => exact ⟨0, Nat.zero_le _, rfl, hx1, cs, hown, by simp [Filled1, ivs]⟩
  case round =>
    obtain ⟨k, hk, rfl, hx, xs, ho, hf⟩ := hrel
    by_cases hlt : k < zs.length
    · obtain ⟨b, off, rfl, hc⟩ := h.at hlt
      have d0 := hx.cell (hc k hlt)
      have hl := ho.1
      have q0 := ho.cellAt k (by omega)
      rw [List.getElem?_eq_getElem (by omega)] at q0
      have f0 := ho.frozenAt k
      have hb : w.heap.size ≤ g := Nat.le_of_eq HG.out
      clear hc
      go_wp2
      try (go_quiet (fail); go_wp2)
      go_roundw
      case rel => exact ⟨k + 1, by omega, by go_num, hx.setCell hb _, _, (ho.stored k _).1, filled1_step hf hlt (by omega)⟩
      case measure => simp [intOf]; omega
    · go_wp2
      go_ret
      refine ⟨_, rfl, ?_, hx⟩
      have hl := ho.1
      rw [HG.out, OwnInts, ← filled1_end hf (by omega) (by omega)]
      exact ho
end Go.Proofs.YthhjbmlkncdigaaGreatDoor
end
section
namespace Go.Proofs.YthhjbmlkncdigaaGreatDoor
open Go Go.RowKit Go.Proofs
set_option maxHeartbeats 400000
theorem ownsRow_lowC {w : World} {base : Nat} {e : TypeId} {size : Nat} {v : Value} {n : Nat} {xs : List Value} (h : w.ownsRow base e size v n xs) {p : Addr} (hp : p.block < base) (u : Value) : (w.setCell p u).ownsRow base e size v n xs :=
  ownsRow_far h (fun k hk => by have := (h.lt k hk).1; omega) u
theorem szConfig_c (v : Value) (c : ConfD) (left : Int) (w : World) (h : Conf w v c) (h0 : 0 ≤ left) (h1 : left ≤ 1048576) :
    Calls Tryz.prog 5 #[v, .int .i64 left] w fun e w' => e = .returned (.int .i64 (szF left (c.l.length + c.r.length))) ∧ Ext w w' := by
  obtain ⟨lv, rv, rfl, hl', hr⟩ := h
  have hx := Ext.alloc w (.cells #[.int .i64 c.q, lv, rv] 27)
  go_enter Tryz.func5, Tryz.ntmps5
  go_wp2_with fail
  refine (szInt64S_c _ _ _ _ (hl'.ext hx) h0 h1).mono ?_
  rintro e w' ⟨rfl, rfl⟩
  by_cases hl : left < c.l.length
  · rw [szF_no hl]
    go_wp2
    go_ret
    exact ⟨by rw [szF_no (by omega)]; simp, hx⟩
  · rw [szF_yes hl]
    go_wp2_with fail
    refine (szInt64S_c _ _ _ _ (hr.ext hx) (by omega) (by omega)).mono ?_
    rintro e w' ⟨rfl, rfl⟩
    by_cases hl2 : left - c.l.length < (c.r.length : Int)
    · rw [szF_no hl2]
      go_wp2
      go_ret
      exact ⟨by rw [szF_no (by omega)]; simp, hx⟩
    · rw [szF_yes hl2]
      have hp : 0 ≤ left - c.l.length - (c.r.length : Int) := by omega
      have HV : Hid (szF left (c.l.length + c.r.length) = left - c.l.length - (c.r.length : Int)) := by unfold Hid; rw [szF_yes (by omega)]; omega
      generalize left - c.l.length - (c.r.length : Int) = r at *
      go_wp2
      go_ret
      exact ⟨by rw [HV.out]; simp, hx⟩
set_option maxHeartbeats 1000000 in
theorem toConfig_c (v : Value) (p : ConfD) (w : World) (h : Conf w v p) (hn : p.l.length + p.r.length ≤ 1048576) :
    Calls Tryz.prog 8 #[v] w fun e w' => ∃ nv wv, e = .returned (.agg #[.int .i64 p.q, nv, wv]) ∧ OwnInts w.heap.size w' nv p.l ∧ OwnInts w.heap.size w' wv p.r ∧ (∀ g, nv.ownBlock = some g → wv.ownBlock ≠ some g) ∧ Ext w w' := by
  obtain ⟨nv0, wv0, rfl, h1, h2⟩ := h
  have HB : ∃ W, W = (((w.alloc (.cells #[.int .i64 p.q, nv0, wv0] 27)).alloc (.cells #[.int .i64 0, .slice none 0 0, .slice none 0 0] 37)).alloc (.cells #[.int .i64 p.q, .slice none 0 0, .slice none 0 0] 37)) := ⟨_, rfl⟩
  obtain ⟨W, hW⟩ := HB
  have hX0 : Ext w W := by rw [hW]; exact ((Ext.alloc _ _).trans (Ext.alloc _ _)).trans (Ext.alloc _ _)
  have b0 : Blk W w.heap.size 27 #[.int .i64 p.q, nv0, wv0] := by rw [hW]; exact ((Blk.new _ _ _ _ rfl).alloc _).alloc _
  have b1 : Blk W (w.heap.size + 1) 37 #[.int .i64 0, .slice none 0 0, .slice none 0 0] := by rw [hW]; exact (Blk.new _ _ _ _ (by simp)).alloc _
  have b2 : Blk W (w.heap.size + 1 + 1) 37 #[.int .i64 p.q, .slice none 0 0, .slice none 0 0] := by rw [hW]; exact Blk.new _ _ _ _ (by simp)
  go_enter Tryz.func8, Tryz.ntmps8
  go_wp2_with fail
  rw [← hW]
  clear hW
  refine (toInt64S_c _ p.l W (h1.ext hX0) (by omega)).mono ?_
  rintro e w1 ⟨u1, rfl, ho1, hx1⟩
  obtain ⟨A1, c1, rfl, _, _⟩ := ho1.ints.form
  have hX1 := hX0.trans hx1
  have hs0 := hX0.size
  have hsW := b2.lt
  generalize hg : w.heap.size = g at *
  have HG := Lib.hid hg
  have B0 := b0.ext hx1
  have B2 := b2.ext hx1
  have c0 := B0.cell 2
  have c2 := B2.cell 1
  have f2 := B2.frozen 1
  simp only [List.getElem?_toArray, List.getElem?_cons_zero, List.getElem?_cons_succ] at c0 c2
  have n1 : ∀ k, (Value.slice A1 p.l.length c1).ownBlock = some k → k ≠ g + 1 + 1 := fun k hk => by have := (ho1.lt k hk).1; omega
  have n1' : ∀ k, (Value.slice A1 p.l.length c1).ownBlock = some k → k ≠ g + 1 := fun k hk => by have := (ho1.lt k hk).1; omega
  have n2 : ∀ k, (Value.slice A1 p.l.length c1).ownBlock = some k → k < w1.heap.size := fun k hk => (ho1.lt k hk).2
  have B0' := B0.far (p := ⟨g + 1 + 1, 1, none⟩) (by simp; omega) (.slice A1 p.l.length c1)
  have B1' := (b1.ext hx1).far (p := ⟨g + 1 + 1, 1, none⟩) (by simp) (.slice A1 p.l.length c1)
  have B2' := B2.set_ 1 (.slice A1 p.l.length c1)
  have o1' : OwnInts W.heap.size (w1.setCell ⟨g + 1 + 1, 1, none⟩ (.slice A1 p.l.length c1)) (.slice A1 p.l.length c1) p.l := ownsRow_far ho1 n1 _
  have hX2 : Ext w (w1.setCell ⟨g + 1 + 1, 1, none⟩ (.slice A1 p.l.length c1)) := hX1.setCell (by have := HG.out; simp; omega) _
  have hsz2 : (w1.setCell ⟨g + 1 + 1, 1, none⟩ (.slice A1 p.l.length c1)).heap.size = w1.heap.size := by simp [World.setCell]
  clear B0 b0 b1 b2 B2 hg hx1 ho1
  go_wp2_with fail
  clear c0 c2 f2
  generalize w1.setCell ⟨g + 1 + 1, 1, none⟩ (.slice A1 p.l.length c1) = W2 at *
  refine (toInt64S_c _ p.r W2 (h2.ext hX2) (by omega)).mono ?_
  rintro e w3 ⟨u3, rfl, ho3, hx3⟩
  obtain ⟨A3, c3, rfl, _, _⟩ := ho3.ints.form
  have hX3 := hX2.trans hx3
  have B1 := B1'.ext hx3
  have B2 := B2'.ext hx3
  have o1 := o1'.ext hx3
  have hs3 := B1'.lt
  have hs4 := B2'.lt
  clear B0' B1' B2' o1'
  have c1' := B1.cell
  have f1 := B1.frozen
  have c2 := B2.cell
  have f2 := B2.frozen
  have hb : w.heap.size ≤ g := Nat.le_of_eq HG.out
  go_wp2
  refine bodyPost_ret (v := .agg #[.int .i64 p.q, .slice A1 p.l.length c1, .slice A3 p.r.length c3]) (by simp [results, Tryz.results8, go_sem, c1']) rfl ⟨_, _, rfl, ?_, ?_, ?_, ?_⟩
  · exact ownsRow_base (ownsRow_lowC (ownsRow_lowC (ownsRow_lowC (ownsRow_lowC o1 (by simp; omega) _) (by simp; omega) _) (by simp; omega) _) (by simp; omega) _) (by omega)
  · exact ownsRow_base (ownsRow_lowC (ownsRow_lowC (ownsRow_lowC (ownsRow_lowC ho3 (by simp; omega) _) (by simp; omega) _) (by simp; omega) _) (by simp; omega) _) (by omega)
  · intro k hk hk'
    have q1 := n2 k hk
    have q2 := (ho3.lt k hk').1
    omega
  · exact (((hX3.setCell (by simp; omega) _).setCell (by simp; omega) _).setCell (by simp; omega) _).setCell (by simp; omega) _
theorem eqConfig_c (w : World) (u v : Value) (a b : ConfD) (ha : Conf w u a) (hb : Conf w v b) :
    Calls Tryz.prog 12 #[u, v] w fun e w' => e = .returned (.bool (decide (a = b))) ∧ Ext w w' := by
  obtain ⟨na, wa, rfl, ha1, ha2⟩ := ha
  obtain ⟨nb, wb, rfl, hb1, hb2⟩ := hb
  have hx0 := (Ext.alloc w (.cells #[.int .i64 a.q, na, wa] 37)).trans (Ext.alloc _ (.cells #[.int .i64 b.q, nb, wb] 37))
  obtain ⟨ak, ans, aws⟩ := a
  obtain ⟨bk, bns, bws⟩ := b
  obtain ⟨Aw, cw, rfl, _, _⟩ := ha2.form
  obtain ⟨Bw, dw, rfl, _, _⟩ := hb2.form
  have ba := (Blk.new w w.heap.size 37 #[.int .i64 ak, na, .slice Aw aws.length cw] rfl).alloc (.cells #[.int .i64 bk, nb, .slice Bw bws.length dw] 37)
  have bb := Blk.new (w.alloc (.cells #[.int .i64 ak, na, .slice Aw aws.length cw] 37)) (w.heap.size + 1) 37 #[.int .i64 bk, nb, .slice Bw bws.length dw] (by simp)
  by_cases h1 : ak = bk
  · subst h1
    go_enter Tryz.func12, Tryz.ntmps12
    go_wp2_with fail
    refine (eqInt64S_c _ _ _ _ _ (ha1.ext hx0) (hb1.ext hx0)).mono ?_
    rintro e w1 ⟨rfl, hx1⟩
    by_cases h2 : ans = bns
    · rw [lEq_true h2]
      have c0 := (ba.ext hx1).cell 2
      have c1 := (bb.ext hx1).cell 2
      simp only [List.getElem?_toArray, List.getElem?_cons_zero, List.getElem?_cons_succ] at c0 c1
      go_wp2_with fail
      refine (eqInt64S_c _ _ _ _ _ ((ha2.ext hx0).ext hx1) ((hb2.ext hx0).ext hx1)).mono ?_
      rintro e w2 ⟨rfl, hx2⟩
      have hX := (hx0.trans hx1).trans hx2
      by_cases h3 : aws = bws
      · rw [lEq_true h3]
        go_wp2
        go_ret
        exact ⟨by simp [h2, h3], hX⟩
      · rw [lEq_false h3]
        go_wp2
        go_ret
        exact ⟨by simp [h3], hX⟩
    · rw [lEq_false h2]
      go_wp2
      go_ret
      exact ⟨by simp [h2], hx0.trans hx1⟩
  · have h1' : (ak != bk) = true := by simp [h1]
    go_enter Tryz.func12, Tryz.ntmps12
    go_wp2
    go_ret
    exact ⟨by simp, hx0⟩
/-- Only the blocks of two slices may have changed. -/
def TwoOnly (w w' : World) (u v : Value) : Prop := w.heap.size ≤ w'.heap.size ∧ ∀ g, g < w.heap.size → u.ownBlock ≠ some g → v.ownBlock ≠ some g → w'.heap[g]? = w.heap[g]?
theorem TwoOnly.own {w w' : World} {u v : Value} (h : TwoOnly w w' u v) {base : Nat} {e : TypeId} {size : Nat} {x : Value} {n : Nat} {xs : List Value} (ho : w.ownsRow base e size x n xs) (h1 : ∀ g, x.ownBlock = some g → u.ownBlock ≠ some g ∧ v.ownBlock ≠ some g) : w'.ownsRow base e size x n xs := by
  obtain ⟨a, b⟩ := ho
  refine ⟨a, ?_⟩
  rcases b with b | ⟨g, cap, cur, rfl, hb, hh, r⟩
  · exact .inl b
  · obtain ⟨n1, n2⟩ := h1 g rfl
    exact .inr ⟨g, cap, cur, rfl, hb, (h.2 g (Array.getElem?_eq_some_iff.1 hh).1 n1 n2).trans hh, r⟩
theorem TwoOnly.row {w w' : World} {u v : Value} (h : TwoOnly w w' u v) {size n : Nat} {x : Value} {xs : List Value} (ho : Row w size x n xs) (h1 : ∀ g o s, x = .slice (some ⟨g, o, s⟩) n (match x with | .slice _ _ c => c | _ => 0) → u.ownBlock ≠ some g ∧ v.ownBlock ≠ some g) : Row w' size x n xs := by
  obtain ⟨A, c, rfl, h2, h3, h4, h5⟩ := ho
  refine ⟨A, c, rfl, h2, h3, h4, fun hn => ?_⟩
  obtain ⟨b, off, rfl, hc⟩ := h5 hn
  refine ⟨b, off, rfl, fun j hj => ?_⟩
  obtain ⟨n1, n2⟩ := h1 b off none rfl
  have := hc j hj
  rw [List.getElem?_eq_getElem hj] at this ⊢
  have hlt := World.block_lt_of_cell? w _ this
  exact (World.cell?_of_block (h.2 b hlt n1 n2)).trans this
theorem markConfig_c (base : Nat) (q : Int) (lv rv : Value) (l r : List Int) (k : Int) (w : World) (h : OwnInts base w lv l) (h' : OwnInts base w rv r) (hap : ∀ g, lv.ownBlock = some g → rv.ownBlock ≠ some g) (hb : base ≤ w.heap.size) (h0 : 0 ≤ k) (h1 : k + l.length + r.length ≤ 4611686018427387904) :
    Calls Tryz.prog 14 #[.agg #[.int .i64 q, lv, rv], .int .i64 k] w fun e w' => e = .returned (.int .i64 (k + l.length + r.length)) ∧ OwnInts base w' lv (nums k l.length) ∧ OwnInts base w' rv (nums (k + l.length) r.length) ∧ Below base w w' ∧ TwoOnly w w' lv rv := by
  obtain ⟨A, c, rfl, _, _⟩ := h.ints.form
  obtain ⟨B, d, rfl, _, _⟩ := h'.ints.form
  have hx0 := Ext.alloc w (.cells #[.int .i64 q, .slice A l.length c, .slice B r.length d] 37)
  have b0 := Blk.new w w.heap.size 37 #[.int .i64 q, .slice A l.length c, .slice B r.length d] rfl
  have o0 := h.ext hx0
  have o0' := h'.ext hx0
  go_enter Tryz.func14, Tryz.ntmps14
  go_wp2_with fail
  refine (markInt64S_c base _ l k _ o0 h0 (by omega)).mono ?_
  rintro e w1 ⟨rfl, ho1, hg1⟩
  have b1 := Blk.apart b0 o0 (by decide) hg1
  have c2 := b1.cell 2
  simp only [List.getElem?_toArray, List.getElem?_cons_zero, List.getElem?_cons_succ] at c2
  have hb1 : Below base w w1 := ((Below.refl _ _).alloc hb _).grown hg1 (by simp; omega) (fun g hg => (o0.lt g hg).1)
  have o1' : OwnInts base w1 (.slice B r.length d) r := by
    refine World.ownsRow.kept o0' hg1 ?_
    by_cases e : (Value.slice A l.length c).ownBlock = none
    · cases h9 : (Value.slice B r.length d).ownBlock with
      | none => exact .inl rfl
      | some z => exact .inr (by rw [e]; simp)
    · obtain ⟨z, hz⟩ := Option.ne_none_iff_exists'.1 e
      exact .inr (by rw [hz]; exact hap z hz)
  go_wp2_with fail
  refine (markInt64S_c base _ r _ _ o1' (by omega) (by omega)).mono ?_
  rintro e w2 ⟨rfl, ho2, hg2⟩
  go_wp2
  go_ret
  refine ⟨rfl, ?_, ho2, hb1.grown hg2 (by have := hb1.size; omega) (fun g hg => (o1'.lt g hg).1), ?_, fun g hg n1 n2 => ?_⟩
  · refine World.ownsRow.kept ho1 hg2 ?_
    cases h9 : (Value.slice A l.length c).ownBlock with
    | none => exact .inl rfl
    | some z => exact .inr (Ne.symm (hap z h9))
  · have := hg1.size
    have := hg2.size
    have := hx0.size
    omega
  · have e1 := hg1.block g (by simp; omega) (by simpa using n1.symm)
    have e2 := hg2.block g (by have := hg1.size; simp at this; omega) (by simpa using n2.symm)
    have e0 := Below.block hx0 g hg
    exact e2.trans (e1.trans e0)
end Go.Proofs.YthhjbmlkncdigaaGreatDoor
end
section
set_option linter.unusedSimpArgs false
set_option linter.unusedVariables false
namespace Go.Proofs.YthhjbmlkncdigaaGreatDoor
open Go Go.RowKit Go.Proofs
set_option maxHeartbeats 400000
/-- A configuration that a call has made. -/
def MadeConf (base : Nat) (w : World) (v : Value) (c : ConfD) : Prop := ∃ lv rv, v = .agg #[.int .i64 c.q, lv, rv] ∧ OwnInts base w lv c.l ∧ OwnInts base w rv c.r ∧ (∀ g, lv.ownBlock = some g → rv.ownBlock ≠ some g)
theorem toConfigM_c (v : Value) (p : ConfD) (w : World) (h : Conf w v p) (hn : p.l.length + p.r.length ≤ 1048576) :
    Calls Tryz.prog 8 #[v] w fun e w' => ∃ u, e = .returned u ∧ MadeConf w.heap.size w' u p ∧ Ext w w' := by
  refine (toConfig_c v p w h hn).mono ?_
  rintro e w' ⟨nv, wv, rfl, h1, h2, h3, h4⟩
  exact ⟨_, rfl, ⟨_, _, rfl, h1, h2, h3⟩, h4⟩
theorem MadeConf.ext {base : Nat} {w w' : World} {u : Value} {c : ConfD} (h : MadeConf base w u c) (he : Ext w w') : MadeConf base w' u c := by
  obtain ⟨lv, rv, e, h1, h2, h3⟩ := h
  exact ⟨lv, rv, e, h1.ext he, h2.ext he, h3⟩
theorem MadeConf.conf {base : Nat} {w : World} {u : Value} {c : ConfD} (h : MadeConf base w u c) : Conf w u c := by
  obtain ⟨lv, rv, e, h1, h2, h3⟩ := h
  exact ⟨lv, rv, e, h1.ints, h2.ints⟩
theorem Ext.set3 {w0 wC : World} {g : Nat} (hx : Ext w0 wC) (hg : w0.heap.size ≤ g) (x y z : Value) : Ext w0 (((wC.setCell ⟨g, 0, none⟩ x).setCell ⟨g, 1, none⟩ y).setCell ⟨g, 2, none⟩ z) :=
  ((hx.setCell hg _).setCell hg _).setCell hg _
end Go.Proofs.YthhjbmlkncdigaaGreatDoor
end
