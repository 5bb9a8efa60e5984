/- Contracts of the laws' copies of lists of lists and of proofs. Lists are short. -/
import Derived.Test.YtdkdmcaehinkhaaDoorCopy
namespace Go.Proofs.YtdkdmcaehinkhaaDoor
open Go Go.RowKit Go.Proofs
set_option maxHeartbeats 400000
theorem rowInfo' : (Tryd.prog.info? 38).map (fun i => (i.zero, i.size, i.bytes)) = some (some (.slice none 0 0), 1, 24) := by kernel_rfl
/-- The first k rows are copied. -/
def RowsTo (b : Nat) (w : World) (xss : List (List Int)) (k : Nat) (vs : List Value) : Prop :=
  (∀ i, (h : i < xss.length) → i < k → ∃ u, vs[i]? = some u ∧ OwnInts b w u xss[i]) ∧
    ∀ (i j : Nat) (u u' : Value) (g : Nat), i < k → j < k → vs[i]? = some u → vs[j]? = some u' → u.ownBlock = some g → u'.ownBlock = some g → i = j
theorem RowsTo.ext {b : Nat} {w w' : World} {xss : List (List Int)} {k : Nat} {vs : List Value} (h : RowsTo b w xss k vs) (he : Ext w w') : RowsTo b w' xss k vs :=
  ⟨fun i hi hk => by obtain ⟨u, e, hu⟩ := h.1 i hi hk; exact ⟨u, e, hu.ext he⟩, h.2⟩
theorem far_of_ne {w : World} {base base' : Nat} {e e' : TypeId} {size size' : Nat} {v v' : Value} {n n' : Nat} {xs xs' : List Value} (h : w.ownsRow base e size v n xs) (h' : w.ownsRow base' e' size' v' n' xs') (hne : e ≠ e') {g : Nat} (hg : v'.ownBlock = some g) : ∀ k, v.ownBlock = some k → k ≠ g := by
  intro k hk he
  rcases own_ne h h' hne with c | c
  · rw [c] at hk; cases hk
  · exact c (by rw [hk, hg, he])
theorem RowsTo.step {g c0 : Nat} {w w2 : World} {xss : List (List Int)} {k n : Nat} {vs : List Value} {u : Value} (h : RowsTo g w xss k vs) (hx : Ext w w2) (ho : w2.ownsRow g 38 1 (.slice (some ⟨g, 0, none⟩) n c0) n vs) (hk : k < xss.length) (hn : k < vs.length)
    (hu : OwnInts w.heap.size w2 u xss[k]) (hb : g ≤ w.heap.size) : RowsTo g (w2.setCell ⟨g, k, none⟩ u) xss (k + 1) (vs.set k u) := by
  have keep : ∀ {b : Nat} {v : Value} {zs : List Int}, OwnInts b w2 v zs → OwnInts b (w2.setCell ⟨g, k, none⟩ u) v zs := fun hv => ownsRow_far (p := ⟨g, k, none⟩) hv (far_of_ne hv ho (by decide) rfl) u
  refine ⟨fun i hi hik => ?_, fun i j x x' b hi hj hxi hxj hb1 hb2 => ?_⟩
  · by_cases c : i = k
    · subst c
      exact ⟨u, List.getElem?_set_self hn, keep (ownsRow_base hu hb)⟩
    · obtain ⟨x, e, hx'⟩ := h.1 i hi (by omega)
      exact ⟨x, by rw [List.getElem?_set_ne (Ne.symm c)]; exact e, keep (hx'.ext hx)⟩
  · have old : ∀ (i : Nat) (x : Value), i < k → vs[i]? = some x → x.ownBlock = some b → b < w.heap.size := fun i x hi hx1 hb1 => by
      obtain ⟨x', e, hx'⟩ := h.1 i (by omega) hi
      rw [hx1] at e
      injection e with e
      subst e
      exact (hx'.lt b hb1).2
    have new : u.ownBlock = some b → w.heap.size ≤ b := fun hb1 => (hu.lt b hb1).1
    by_cases ci : i = k <;> by_cases cj : j = k
    · omega
    · subst ci
      rw [List.getElem?_set_self hn] at hxi
      injection hxi with hxi
      subst hxi
      rw [List.getElem?_set_ne (Ne.symm cj)] at hxj
      have := old j x' (by omega) hxj hb2
      have := new hb1
      omega
    · subst cj
      rw [List.getElem?_set_self hn] at hxj
      injection hxj with hxj
      subst hxj
      rw [List.getElem?_set_ne (Ne.symm ci)] at hxi
      have := old i x (by omega) hxi hb1
      have := new hb2
      omega
    · rw [List.getElem?_set_ne (Ne.symm ci)] at hxi
      rw [List.getElem?_set_ne (Ne.symm cj)] at hxj
      exact h.2 i j x x' b (by omega) (by omega) hxi hxj hb1 hb2
theorem toInt64SS_c (v : Value) (xss : List (List Int)) (w : World) (h : IntRows w v xss) (hn : xss.length + tot xss ≤ 1048576) :
    Calls Tryd.prog 42 #[v] w fun e w' => ∃ u, e = .returned u ∧ OwnIntRows w.heap.size w' u xss ∧ Ext w w' := by
  obtain ⟨A, c, rfl, h2, h3⟩ := h.form
  obtain ⟨i0, hi, hz0, hz1, hz2⟩ := info_parts rowInfo'
  go_enter Tryd.func42, Tryd.ntmps42
  go_wp2_with (at_make; refine wpList_make_full _ rfl _ _ 26 rfl w.heap.size 38 i0 _ 1 Tryd.underlying26 hi hz0 hz1 .i64 .i64 _ _ xss.length rfl rfl rfl rfl ?c1 ?c2 ?c3 ?_)
  case c1 => rw [hz2]; omega
  case c2 => unfold maxLen; omega
  case c3 => exact Nat.le_refl _
  intro w1 hown hgr
  have hx1 : Ext w w1 := (Ext.refl _).grown hgr (by simp)
  obtain ⟨cs, hown⟩ : ∃ cs, w1.ownsRow w.heap.size 38 1 (.slice (some ⟨w.heap.size, 0, none⟩) xss.length xss.length) xss.length cs := ⟨_, hown⟩
  clear hgr hi hz0 hz1 hz2
  have hsz : w.heap.size < w1.heap.size := (hown.lt _ rfl).2
  generalize hg : w.heap.size = g at *
  have HG := Lib.hid hg
  clear hg
  go_wp2
  go_loopw [4] (fun i wr => ∃ k : Nat, k ≤ xss.length ∧ i = .int .i64 k ∧ Ext w wr ∧ ∃ vs, wr.ownsRow g 38 1 (.slice (some ⟨g, 0, none⟩) xss.length xss.length) xss.length vs ∧ RowsTo g wr xss k vs) (fun i _ => xss.length - (intOf i).toNat)
  case atStart => exact ⟨0, Nat.zero_le _, rfl, hx1, cs, hown, fun i _ hk => by omega, fun i j u u' b hi => by omega⟩
  case round =>
    obtain ⟨k, hk, rfl, hx, vs, ho, hf⟩ := hrel
    by_cases hlt : k < xss.length
    · obtain ⟨b, off, rfl, hc⟩ := h.at hlt
      obtain ⟨A1, d1, c0, r0⟩ := hc k hlt
      have d0 := hx.cell c0
      have r0 := r0.ext hx
      have hb : w.heap.size ≤ g := Nat.le_of_eq HG.out
      have hyl : xss[k].length ≤ 1048576 := by
        have := tot_take_succ xss k hlt
        have := tot_take_le xss (k + 1)
        omega
      have HF : Hid (∀ (w2 : World) (u : Value), Ext wr w2 → OwnInts wr.heap.size w2 u xss[k] → RowsTo g (w2.setCell ⟨g, k, none⟩ u) xss (k + 1) (vs.set k u)) := fun w2 u hx2 hu =>
        hf.step hx2 (ownsRow_ext ho hx2) hlt (by have := ho.1; omega) hu (by have := (ho.lt g rfl).2; omega)
      clear hc c0
      generalize xss[k] = y at *
      go_wp2_with fail
      refine (toInt64S_c _ y _ r0 hyl).mono ?_
      rintro e w2 ⟨u, rfl, hu, hx2⟩
      have ho2 := ownsRow_ext ho hx2
      have hl := ho.1
      have q0 := ho2.cellAt k (by omega)
      rw [List.getElem?_eq_getElem (by omega)] at q0
      have f0 := ho2.frozenAt k
      obtain ⟨A2, c2, rfl, _, _⟩ := hu.ints.form
      clear d0
      go_wp2
      go_roundw
      case rel => exact ⟨k + 1, by omega, by go_num, (hx.trans hx2).setCell hb _, _, (ho2.stored k _).1, HF.out _ _ hx2 hu⟩
      case measure => simp [intOf]; omega
    · go_wp2
      go_ret
      refine ⟨_, rfl, ?_, hx⟩
      have hl := ho.1
      rw [HG.out]
      refine ⟨vs, ho, fun i hi => hf.1 i hi (by omega), fun i j u u' b hi hj => ?_⟩
      have a1 := (List.getElem?_eq_some_iff.1 hi).1
      have a2 := (List.getElem?_eq_some_iff.1 hj).1
      exact hf.2 i j u u' b (by omega) (by omega) hi hj
theorem ownsRow_low {w : World} {base : Nat} {e : TypeId} {size : Nat} {v : Value} {n : Nat} {xs : List Value} (h : w.ownsRow base e size v n xs) {p : Addr} (hp : p.block < base) (u : Value) : (w.setCell p u).ownsRow base e size v n xs :=
  ownsRow_far h (fun k hk => by have := (h.lt k hk).1; omega) u
theorem OwnIntRows.low {w : World} {base : Nat} {v : Value} {xss : List (List Int)} (h : OwnIntRows base w v xss) {p : Addr} (hp : p.block < base) (u : Value) : OwnIntRows base (w.setCell p u) v xss := by
  obtain ⟨vs, h1, h2, h3⟩ := h
  exact ⟨vs, ownsRow_low h1 hp u, fun i hi => by obtain ⟨x, e, hx⟩ := h2 i hi; exact ⟨x, e, ownsRow_low hx hp u⟩, h3⟩
theorem OwnIntRows.base {w : World} {base base' : Nat} {v : Value} {xss : List (List Int)} (h : OwnIntRows base w v xss) (hb : base' ≤ base) : OwnIntRows base' w v xss := by
  obtain ⟨vs, h1, h2, h3⟩ := h
  exact ⟨vs, ownsRow_base h1 hb, fun i hi => by obtain ⟨x, e, hx⟩ := h2 i hi; exact ⟨x, e, ownsRow_base hx hb⟩, h3⟩
/-- A proof. -/
structure ProofD where
  k : Int
  ns : List Int
  ws : List (List Int)
deriving DecidableEq
def Prf (w : World) (v : Value) (p : ProofD) : Prop := ∃ nv wv, v = .agg #[.int .i64 p.k, nv, wv] ∧ Ints w nv p.ns ∧ IntRows w wv p.ws
theorem Prf.ext {w w' : World} {v : Value} {p : ProofD} (h : Prf w v p) (he : Ext w w') : Prf w' v p := by
  obtain ⟨nv, wv, hv, h1, h2⟩ := h; exact ⟨nv, wv, hv, h1.ext he, h2.ext he⟩
def prfSize (p : ProofD) : Nat := p.ns.length + (p.ws.length + tot p.ws)
theorem szProof_c (v : Value) (p : ProofD) (left : Int) (w : World) (h : Prf w v p) (h0 : 0 ≤ left) (h1 : left ≤ 1048576) :
    Calls Tryd.prog 15 #[v, .int .i64 left] w fun e w' => e = .returned (.int .i64 (szF left (prfSize p))) ∧ Ext w w' := by
  obtain ⟨nv, wv, rfl, hn, hw⟩ := h
  have hx := Ext.alloc w (.cells #[.int .i64 p.k, nv, wv] 40)
  unfold prfSize
  go_enter Tryd.func15, Tryd.ntmps15
  go_wp2_with fail
  refine (szInt64S_c _ _ _ _ (hn.ext hx) h0 h1).mono ?_
  rintro e w' ⟨rfl, rfl⟩
  by_cases hl : left < p.ns.length
  · rw [szF_no hl]
    go_wp2
    go_ret
    exact ⟨by rw [szF_no (by omega)]; simp, hx⟩
  · rw [szF_yes hl]
    go_wp2_with fail
    refine (szInt64SS_c _ _ _ _ (hw.ext hx) (by omega) (by omega)).mono ?_
    rintro e w' ⟨rfl, rfl⟩
    by_cases hl2 : left - p.ns.length < ((p.ws.length + tot p.ws : Nat) : Int)
    · rw [szF_no hl2]
      go_wp2
      go_ret
      exact ⟨by rw [szF_no (by omega)]; simp, hx⟩
    · rw [szF_yes hl2]
      have hp : 0 ≤ left - p.ns.length - ((p.ws.length + tot p.ws : Nat) : Int) := by omega
      have HV : Hid (szF left (p.ns.length + (p.ws.length + tot p.ws)) = left - p.ns.length - ((p.ws.length + tot p.ws : Nat) : Int)) := by unfold Hid; rw [szF_yes (by omega)]; omega
      generalize left - p.ns.length - ((p.ws.length + tot p.ws : Nat) : Int) = r at *
      go_wp2
      go_ret
      exact ⟨by rw [HV.out]; simp, hx⟩
set_option maxHeartbeats 1000000 in
theorem toProof_c (v : Value) (p : ProofD) (w : World) (h : Prf w v p) (hn : prfSize p ≤ 1048576) :
    Calls Tryd.prog 17 #[v] w fun e w' => ∃ nv wv, e = .returned (.agg #[.int .i64 p.k, nv, wv]) ∧ OwnInts w.heap.size w' nv p.ns ∧ OwnIntRows w.heap.size w' wv p.ws ∧ Ext w w' := by
  obtain ⟨nv0, wv0, rfl, h1, h2⟩ := h
  unfold prfSize at hn
  have HB : ∃ W, W = (((w.alloc (.cells #[.int .i64 p.k, nv0, wv0] 40)).alloc (.cells #[.int .i64 0, .slice none 0 0, .slice none 0 0] 43)).alloc (.cells #[.int .i64 p.k, .slice none 0 0, .slice none 0 0] 43)) := ⟨_, rfl⟩
  obtain ⟨W, hW⟩ := HB
  have hX0 : Ext w W := by rw [hW]; exact ((Ext.alloc _ _).trans (Ext.alloc _ _)).trans (Ext.alloc _ _)
  have b0 : Blk W w.heap.size 40 #[.int .i64 p.k, nv0, wv0] := by rw [hW]; exact ((Blk.new _ _ _ _ rfl).alloc _).alloc _
  have b1 : Blk W (w.heap.size + 1) 43 #[.int .i64 0, .slice none 0 0, .slice none 0 0] := by rw [hW]; exact (Blk.new _ _ _ _ (by simp)).alloc _
  have b2 : Blk W (w.heap.size + 1 + 1) 43 #[.int .i64 p.k, .slice none 0 0, .slice none 0 0] := by rw [hW]; exact Blk.new _ _ _ _ (by simp)
  go_enter Tryd.func17, Tryd.ntmps17
  go_wp2_with fail
  rw [← hW]
  clear hW
  refine (toInt64S_c _ p.ns W (h1.ext hX0) (by omega)).mono ?_
  rintro e w1 ⟨u1, rfl, ho1, hx1⟩
  obtain ⟨A1, c1, rfl, _, _⟩ := ho1.ints.form
  have hX1 := hX0.trans hx1
  have hs0 := hX0.size
  have hsW := b2.lt
  generalize hg : w.heap.size = g at *
  have HG := Lib.hid hg
  have B0 := b0.ext hx1
  have B2 := b2.ext hx1
  have c0 := B0.cell 2
  have c2 := B2.cell 1
  have f2 := B2.frozen 1
  simp only [List.getElem?_toArray, List.getElem?_cons_zero, List.getElem?_cons_succ] at c0 c2
  have n1 : ∀ k, (Value.slice A1 p.ns.length c1).ownBlock = some k → k ≠ g + 1 + 1 := fun k hk => by have := (ho1.lt k hk).1; omega
  have n1' : ∀ k, (Value.slice A1 p.ns.length c1).ownBlock = some k → k ≠ g + 1 := fun k hk => by have := (ho1.lt k hk).1; omega
  have B0' := B0.far (p := ⟨g + 1 + 1, 1, none⟩) (by simp; omega) (.slice A1 p.ns.length c1)
  have B1' := (b1.ext hx1).far (p := ⟨g + 1 + 1, 1, none⟩) (by simp) (.slice A1 p.ns.length c1)
  have B2' := B2.set_ 1 (.slice A1 p.ns.length c1)
  have o1' : OwnInts W.heap.size (w1.setCell ⟨g + 1 + 1, 1, none⟩ (.slice A1 p.ns.length c1)) (.slice A1 p.ns.length c1) p.ns := ownsRow_far ho1 n1 _
  have hX2 : Ext w (w1.setCell ⟨g + 1 + 1, 1, none⟩ (.slice A1 p.ns.length c1)) := hX1.setCell (by have := HG.out; simp; omega) _
  clear B0 b0 b1 b2 B2 hg hx1 ho1
  go_wp2_with fail
  clear c0 c2 f2
  generalize w1.setCell ⟨g + 1 + 1, 1, none⟩ (.slice A1 p.ns.length c1) = W2 at *
  refine (toInt64SS_c _ p.ws W2 (h2.ext hX2) (by omega)).mono ?_
  rintro e w3 ⟨u3, rfl, ho3, hx3⟩
  obtain ⟨A3, c3, rfl, _, _⟩ := ho3.rows.form
  have hX3 := hX2.trans hx3
  have B1 := B1'.ext hx3
  have B2 := B2'.ext hx3
  have o1 := o1'.ext hx3
  have hs3 := B1'.lt
  have hs4 := B2'.lt
  clear B0' B1' B2' o1'
  have c1' := B1.cell
  have f1 := B1.frozen
  have c2 := B2.cell
  have f2 := B2.frozen
  have hb : w.heap.size ≤ g := Nat.le_of_eq HG.out
  go_wp2
  refine bodyPost_ret (v := .agg #[.int .i64 p.k, .slice A1 p.ns.length c1, .slice A3 p.ws.length c3]) (by simp [results, Tryd.results17, go_sem, c1']) rfl ⟨_, _, rfl, ?_, ?_, ?_⟩
  · exact ownsRow_base (ownsRow_low (ownsRow_low (ownsRow_low (ownsRow_low o1 (by simp; omega) _) (by simp; omega) _) (by simp; omega) _) (by simp; omega) _) (by omega)
  · exact OwnIntRows.base (OwnIntRows.low (OwnIntRows.low (OwnIntRows.low (OwnIntRows.low ho3 (by simp; omega) _) (by simp; omega) _) (by simp; omega) _) (by simp; omega) _) (by omega)
  · exact (((hX3.setCell (by simp; omega) _).setCell (by simp; omega) _).setCell (by simp; omega) _).setCell (by simp; omega) _
theorem eqProof_c (w : World) (u v : Value) (a b : ProofD) (ha : Prf w u a) (hb : Prf w v b) :
    Calls Tryd.prog 19 #[u, v] w fun e w' => e = .returned (.bool (decide (a = b))) ∧ Ext w w' := by
  obtain ⟨na, wa, rfl, ha1, ha2⟩ := ha
  obtain ⟨nb, wb, rfl, hb1, hb2⟩ := hb
  have hx0 := (Ext.alloc w (.cells #[.int .i64 a.k, na, wa] 43)).trans (Ext.alloc _ (.cells #[.int .i64 b.k, nb, wb] 43))
  obtain ⟨ak, ans, aws⟩ := a
  obtain ⟨bk, bns, bws⟩ := b
  obtain ⟨Aw, cw, rfl, _, _⟩ := ha2.form
  obtain ⟨Bw, dw, rfl, _, _⟩ := hb2.form
  have ba := (Blk.new w w.heap.size 43 #[.int .i64 ak, na, .slice Aw aws.length cw] rfl).alloc (.cells #[.int .i64 bk, nb, .slice Bw bws.length dw] 43)
  have bb := Blk.new (w.alloc (.cells #[.int .i64 ak, na, .slice Aw aws.length cw] 43)) (w.heap.size + 1) 43 #[.int .i64 bk, nb, .slice Bw bws.length dw] (by simp)
  by_cases h1 : ak = bk
  · subst h1
    go_enter Tryd.func19, Tryd.ntmps19
    go_wp2_with fail
    refine (eqInt64S_c _ _ _ _ _ (ha1.ext hx0) (hb1.ext hx0)).mono ?_
    rintro e w1 ⟨rfl, hx1⟩
    by_cases h2 : ans = bns
    · rw [lEq_true h2]
      have c0 := (ba.ext hx1).cell 2
      have c1 := (bb.ext hx1).cell 2
      simp only [List.getElem?_toArray, List.getElem?_cons_zero, List.getElem?_cons_succ] at c0 c1
      go_wp2_with fail
      refine (eqInt64SS_c _ _ _ _ _ ((ha2.ext hx0).ext hx1) ((hb2.ext hx0).ext hx1)).mono ?_
      rintro e w2 ⟨rfl, hx2⟩
      have hX := (hx0.trans hx1).trans hx2
      by_cases h3 : aws = bws
      · rw [lEq_true h3]
        go_wp2
        go_ret
        exact ⟨by simp [h2, h3], hX⟩
      · rw [lEq_false h3]
        go_wp2
        go_ret
        exact ⟨by simp [h3], hX⟩
    · rw [lEq_false h2]
      go_wp2
      go_ret
      exact ⟨by simp [h2], hx0.trans hx1⟩
  · have h1' : (ak != bk) = true := by simp [h1]
    go_enter Tryd.func19, Tryd.ntmps19
    go_wp2
    go_ret
    exact ⟨by simp, hx0⟩
end Go.Proofs.YtdkdmcaehinkhaaDoor
