/- Contract of the library's maker of strings in a block of the call's own: a string is laid behind what it holds.
Contract: the code for the arguments of texts.
Contract of the program's text of a configuration with several tapes. The listed tables of the library hold what they should. -/
import Derived.Test.YtgeckhjkahnonaaGreatDoorO06
import Derived.Lib.AppendStr
import Derived.Test.YtgeckhjkahnonaaGreatDoorO02
import Derived.Test.YtgeckhjkahnonaaGreatDoorO07
import Derived.Test.YtgeckhjkahnonaaGreatDoorO18
import Derived.Test.YtgeckhjkahnonaaGreatDoorO04
import Derived.Test.YtgeckhjkahnonaaGreatDoorO05
import Derived.Test.YtgeckhjkahnonaaGreatDoorO21
section
set_option linter.unusedSimpArgs false
set_option linter.unusedVariables false
namespace Go.Proofs.YtgeckhjkahnonaaGreatDoor
open Go Go.RowKit Go.Proofs
set_option maxHeartbeats 400000
set_option maxRecDepth 20000 in
set_option maxHeartbeats 4000000 in
theorem writeStringA_c (B b : Nat) (l : List UInt8) (s : ByteArray) (w : World) (h : Bldr B b l w) (hlen : l.length + s.size ≤ 140737488355328) (hBw : B ≤ w.heap.size) :
    Calls Tryz.prog 40 #[.pointer (some ⟨b, 0, none⟩), .string s] w fun e w' => e = .returned (.tuple #[.int .i64 s.size, .nilIface]) ∧ BdAt B b (.pointer (some ⟨b, 0, none⟩)) (l ++ s.data.toList) w' ∧ Below B w w' := by
  obtain ⟨i0, hi, hz0, hz1, hz2⟩ := info_parts byteInfo
  have hbl : (Lib.byteCells l).length = l.length := by simp [Lib.byteCells]
  go_enter Tryz.func40, Tryz.ntmps40
  go_wp2_with fail
  refine (copyCheck_c B b l w h).mono ?_
  rintro e w1 ⟨rfl, h1, hb1⟩
  obtain ⟨hB, v, hbk, hown, hne⟩ := h1
  rw [hbl] at hown
  obtain ⟨ao, cap, rfl⟩ : ∃ ao cap, v = .slice ao l.length cap := by
    rcases hown.2 with ⟨hv, h0⟩ | ⟨g, cap, cur, hv, _⟩
    · exact ⟨none, 0, by rw [hv, h0]⟩
    · exact ⟨_, _, hv⟩
  have c0 : w1.cell? ⟨b, 0, none⟩ = some (.pointer (some ⟨b, 0, none⟩)) := by rw [Lib.cell_of_heap hbk]; rfl
  have c1 : w1.cell? ⟨b, 1, none⟩ = some (.slice ao l.length cap) := by rw [Lib.cell_of_heap hbk]; rfl
  go_wp2_with (at_builtin; refine Lib.wpList_append_own_string _ rfl _ _ 22 9 rfl B 5 i0 Tryz.underlying22 Tryz.underlying9 hi hz0 hz1 hz2 _ _ _ rfl hown s rfl ?c3 ?c4 ?c5 ?_)
  case c3 => unfold maxLen; omega
  case c4 => omega
  case c5 => have := hb1.size; omega
  intro v' w2 hown' hgrow _
  have hlt : b < w1.heap.size := by
    rcases Nat.lt_or_ge b w1.heap.size with h' | h'
    · exact h'
    · simp [Array.getElem?_eq_none h'] at hbk
  have hb2 : w2.heap[b]? = some (.cells #[.pointer (some ⟨b, 0, none⟩), .slice ao l.length cap] 101 (0, 0)) := by
    rw [hgrow.block b hlt (fun e => hne e.symm)]
    exact hbk
  have d0 : w2.cell? ⟨b, 0, none⟩ = some (.pointer (some ⟨b, 0, none⟩)) := by rw [Lib.cell_of_heap hb2]; rfl
  have d1 : w2.cell? ⟨b, 1, none⟩ = some (.slice ao l.length cap) := by rw [Lib.cell_of_heap hb2]; rfl
  have f1 : w2.frozen? ⟨b, 1, none⟩ = false := Lib.frozen_of_heap hb2 1
  obtain ⟨ao', n', cap', rfl⟩ : ∃ ao n' cap, v' = .slice ao n' cap := by
    rcases hown'.2 with ⟨hv, _⟩ | ⟨g, cap, cur, hv, _⟩
    · exact ⟨_, _, _, hv⟩
    · exact ⟨_, _, _, hv⟩
  go_wp2
  go_ret2
  refine ⟨rfl, ?_, ?_⟩
  · refine Lib.BuilderAt.put (T := 101) (e := 5) hB hb2 (bs' := Lib.byteCells (l ++ s.data.toList)) ?_ (by decide)
    have : Lib.byteCells (l ++ s.data.toList) = Lib.byteCells l ++ Lib.strCells s := by simp [Lib.byteCells, Lib.strCells]
    rw [this]
    have e : (Lib.byteCells l ++ Lib.strCells s).length = l.length + s.size := by simp [hbl, Lib.strCells_length]
    rw [e]
    exact hown'
  · exact (hb1.grown hgrow (by have := hb1.size; omega) (fun k hk => (hown.lt k hk).1)).setCell (p := ⟨b, 1, none⟩) hB _
end Go.Proofs.YtgeckhjkahnonaaGreatDoor
end
section
set_option linter.unusedSimpArgs false
set_option linter.unusedVariables false
namespace Go.Proofs.YtgeckhjkahnonaaGreatDoor
open Go Go.RowKit Go.Proofs
set_option maxHeartbeats 400000
def codeT (a b : Bool) : Int := if a then (if b then 0 else 2) else 1
theorem textsCode_c (a : Bool) (n : Int) (w : World) :
    Calls Tryz.prog 14 #[.bool a, .int .i64 n] w fun e w' => e = .returned (.int .i64 (codeT a (inB n 0 599))) ∧ w = w' := by
  have hW := within_c n 0 599 w
  generalize inB n 0 599 = b at *
  obtain ⟨k, hk⟩ : ∃ k, codeT a b = k := ⟨_, rfl⟩
  rw [hk]
  have HK := Lib.hid hk
  clear hk
  cases a with
  | false =>
    go_enter Tryz.func14, Tryz.ntmps14
    go_wp2
    go_ret
    exact ⟨by rw [← HK.out]; rfl, rfl⟩
  | true =>
    cases b with
    | false =>
      go_enter Tryz.func14, Tryz.ntmps14
      go_wp2_with fail
      refine hW.mono ?_
      rintro e w' ⟨rfl, rfl⟩
      go_wp2
      go_ret
      exact ⟨by rw [← HK.out]; rfl, rfl⟩
    | true =>
      go_enter Tryz.func14, Tryz.ntmps14
      go_wp2_with fail
      refine hW.mono ?_
      rintro e w' ⟨rfl, rfl⟩
      go_wp2
      go_ret
      exact ⟨by rw [← HK.out]; rfl, rfl⟩
end Go.Proofs.YtgeckhjkahnonaaGreatDoor
end
section
set_option linter.unusedSimpArgs false
set_option linter.unusedVariables false
namespace Go.Proofs.YtgeckhjkahnonaaGreatDoor
open Go Go.RowKit Go.Proofs
set_option maxHeartbeats 400000
theorem Bldr.ext {B b : Nat} {l : List UInt8} {w w' : World} (h : Bldr B b l w) (he : Ext w w') : Bldr B b l w' := by
  rcases h with ⟨hB, v, hbk, hown, hne⟩ | ⟨hB, v, hbk, hown, hne⟩
  · exact .inl ⟨hB, v, he.block hbk, ownsRow_ext hown he, hne⟩
  · exact .inr ⟨hB, v, he.block hbk, ownsRow_ext hown he, hne⟩
/-- The text of a tape. -/
def tapT (t : TapeD) : List UInt8 := [124] ++ digB t.l.reverse ++ [94] ++ digB t.r
/-- The text of a configuration with several tapes. -/
def mconT (c : MConfD) : List UInt8 := [40] ++ Lib.itoa c.q ++ [41] ++ c.tapes.flatMap tapT
/-- What a configuration must be for its text. -/
structure MDig (c : MConfD) : Prop where
  q0 : 0 ≤ c.q
  q9 : c.q ≤ 999
  n : c.tapes.length ≤ 3
  t : ∀ t ∈ c.tapes, t.l.length ≤ 200 ∧ t.r.length ≤ 200 ∧ (∀ z ∈ t.l, 0 ≤ z ∧ z ≤ 9) ∧ ∀ z ∈ t.r, 0 ≤ z ∧ z ≤ 9
theorem tapT_len (t : TapeD) (h1 : t.l.length ≤ 200) (h2 : t.r.length ≤ 200) : (tapT t).length ≤ 402 := by simp [tapT, digB]; omega
theorem flatT_len : ∀ (ts : List TapeD), (∀ t ∈ ts, t.l.length ≤ 200 ∧ t.r.length ≤ 200) → (ts.flatMap tapT).length ≤ 402 * ts.length
  | [], _ => by simp
  | t :: ts, h => by
    have ih := flatT_len ts (fun x hx => h x (by simp [hx]))
    have h0 := h t (by simp)
    have := tapT_len t h0.1 h0.2
    simp only [List.flatMap_cons, List.length_append, List.length_cons]
    omega
theorem tapT_app (t : TapeD) : (((⟨#[124]⟩ : ByteArray) ++ bsS (digB t.l.reverse) ++ ⟨#[94]⟩ ++ bsS (digB t.r)).data.toList) = tapT t := by
  simp [tapT, ByteArray.data_append]
theorem headQ_app (q : Int) : (((⟨#[40]⟩ : ByteArray) ++ itoaS q ++ ⟨#[41]⟩).data.toList) = [40] ++ Lib.itoa q ++ [41] := by
  simp [itoaS, ByteArray.data_append]
set_option maxRecDepth 20000 in
set_option maxHeartbeats 4000000 in
theorem multiConfigText_c (c : MConfD) (b off cap : Nat) (w : World) (hT : TapF w b off c.tapes) (h1 : c.tapes.length ≤ cap) (h2 : cap ≤ 9223372036854775807) (hd : MDig c) (hTb : Tab w) :
    Calls Tryz.prog 19 #[.agg #[.int .i64 c.q, .slice (some ⟨b, off, none⟩) c.tapes.length cap]] w fun e w' => e = .returned (.string (bsS (mconT c))) ∧ Ext w w' := by
  obtain ⟨q0, q9, n3, hdt⟩ := hd
  obtain ⟨g, hg⟩ : ∃ g, w.heap.size = g := ⟨_, rfl⟩
  obtain ⟨W0, hW0⟩ : ∃ W0, W0 = w.alloc (.cells #[.int .i64 c.q, .slice (some ⟨b, off, none⟩) c.tapes.length cap] 48) := ⟨_, rfl⟩
  have hX0 : Ext w W0 := by rw [hW0]; exact Ext.alloc _ _
  have hs0 : W0.heap.size = g + 1 := by rw [hW0]; simp [hg]
  obtain ⟨W, hW⟩ : ∃ W, W = W0.alloc (.cells #[.pointer none, .slice none 0 0] 101) := ⟨_, rfl⟩
  have hX1 : Ext W0 W := by rw [hW]; exact Ext.alloc _ _
  have hB : Bldr (g + 1) (g + 1) [] W := by
    have := Lib.fresh_isBuilder 101 5 W0
    rw [hs0] at this
    rw [hW]
    exact this
  have bC : Blk W g 48 #[.int .i64 c.q, .slice (some ⟨b, off, none⟩) c.tapes.length cap] := by
    have : Blk W0 g 48 #[.int .i64 c.q, .slice (some ⟨b, off, none⟩) c.tapes.length cap] := by rw [hW0]; exact Blk.new _ _ _ _ hg
    exact this.ext hX1
  have bC00 : Blk W0 g 48 #[.int .i64 c.q, .slice (some ⟨b, off, none⟩) c.tapes.length cap] := by rw [hW0]; exact Blk.new _ _ _ _ hg
  have c0 := bC.cell 0
  simp only [List.getElem?_toArray, List.getElem?_cons_zero, List.getElem?_cons_succ] at c0
  have hX := hX0.trans hX1
  have hWs : g + 1 ≤ W.heap.size := by have := hX1.size; omega
  have DC := Decimal_c c.q W (by omega) (by omega) (hTb.ext hX)
  have hsQ := itoaS_size (n := c.q) q0 (by omega)
  have HQA := Lib.hid (headQ_app c.q)
  have hqs : ((⟨#[40]⟩ : ByteArray) ++ itoaS c.q ++ ⟨#[41]⟩).size ≤ 30 := by
    have z1 : (⟨#[40]⟩ : ByteArray).size = 1 := rfl
    have z2 : (⟨#[41]⟩ : ByteArray).size = 1 := rfl
    rw [ByteArray.size_append, ByteArray.size_append]; omega
  have hqs0 := hqs
  rw [hW0] at hW
  go_enter Tryz.func19, Tryz.ntmps19
  go_wp2_with fail
  try rw [← hW]
  try rw [hg]
  clear hW hW0
  refine DC.mono ?_
  rintro e w1 ⟨rfl, hx1⟩
  have hB1 := hB.ext hx1
  have WS := writeStringA_c (g + 1) (g + 1) [] _ w1 hB1 (by rw [List.length_nil, Nat.zero_add]; exact Nat.le_trans hqs (by omega)) (by have := hx1.size; omega)
  rw [HQA.out, List.nil_append] at WS
  obtain ⟨sq, hsq⟩ : ∃ s, (⟨#[40]⟩ : ByteArray) ++ itoaS c.q ++ ⟨#[41]⟩ = s := ⟨_, rfl⟩
  have bC1 := bC.ext hx1
  have hX1' := hX.trans hx1
  have k1 : ¬ 9223372036854775807 < 1 + (itoaS c.q).size := by omega
  have k2 : ¬ 9223372036854775807 < 1 + (itoaS c.q).size + 1 := by omega
  rw [hsq] at WS hqs
  have hE1 : Ext W0 w1 := hX1.trans hx1
  have hb0 : ∀ {x : World}, Ext W0 x → Blk x g 48 #[.int .i64 c.q, .slice (some ⟨b, off, none⟩) c.tapes.length cap] := fun hx => by
    have : Blk W0 g 48 #[.int .i64 c.q, .slice (some ⟨b, off, none⟩) c.tapes.length cap] := bC00
    exact this.ext hx
  clear DC hB hx1 bC c0
  go_wp2_with fail
  refine WS.mono ?_
  rintro e w2 ⟨rfl, hB2, hX2⟩
  have hE2 : Ext W0 w2 := ext_below hE1 hs0 hX2
  have c1 := (hb0 hE2).cell 1
  simp only [List.getElem?_toArray, List.getElem?_cons_zero, List.getElem?_cons_succ] at c1
  generalize hHD : [40] ++ Lib.itoa c.q ++ [41] = hd0 at *
  have hhd : hd0.length ≤ 30 := by rw [← HQA.out, Array.length_toList]; exact hqs0
  clear WS hB1 hE1 hX1 hX1' bC1 hsq hqs hqs0 k1 k2
  go_wp2_with fail
  go_loopw [15] (fun i wr => ∃ k : Nat, k ≤ c.tapes.length ∧ i = .int .i64 (k : Int) ∧ Bldr (g + 1) (g + 1) (hd0 ++ (c.tapes.take k).flatMap tapT) wr ∧ Ext W0 wr) (fun i _ => c.tapes.length - (intOf i).toNat)
  case atStart => exact ⟨0, Nat.zero_le _, rfl, .inr (by simpa using hB2), hE2⟩
  case round =>
    clear hB2 hX2 hE2 c1
    obtain ⟨k, hk, rfl, hB, hE⟩ := hrel
    by_cases hlt : k < c.tapes.length
    · have hTk := (hT.ext hX0).ext hE
      obtain ⟨lv, rv, t0, t1, o1, o2, f1, f2, n1, n2⟩ := hTk k hlt
      have hdk := hdt _ (List.getElem_mem hlt)
      have hnx : Hid (hd0 ++ (c.tapes.take (k + 1)).flatMap tapT = (hd0 ++ (c.tapes.take k).flatMap tapT) ++ tapT c.tapes[k]) := Lib.hid (by rw [List.take_succ_eq_append_getElem hlt, List.flatMap_append, List.append_assoc]; simp)
      have hll : (hd0 ++ (c.tapes.take k).flatMap tapT).length ≤ 1300 := by
        have := flatT_len (c.tapes.take k) (fun t ht => ⟨(hdt t (List.mem_of_mem_take ht)).1, (hdt t (List.mem_of_mem_take ht)).2.1⟩)
        rw [List.length_append]
        simp only [List.length_take] at this
        omega
      generalize hd0 ++ (c.tapes.take k).flatMap tapT = acc at *
      generalize c.tapes[k] = t at *
      obtain ⟨d1, d2, d3, d4⟩ := hdk
      obtain ⟨A1, e1, rfl, _, _⟩ := o1.form
      obtain ⟨A2, e2, rfl, _, _⟩ := o2.form
      obtain ⟨gr, hgr⟩ : ∃ gr, wr.heap.size = gr := ⟨_, rfl⟩
      obtain ⟨W, hW⟩ : ∃ W, wr.alloc (.cells #[.slice A1 t.l.length e1, .slice A2 t.r.length e2] 91) = W := ⟨_, rfl⟩
      have hXW : Ext wr W := by rw [← hW]; exact Ext.alloc _ _
      have bT : Blk W gr 91 #[.slice A1 t.l.length e1, .slice A2 t.r.length e2] := by rw [← hW]; exact Blk.new _ _ _ _ hgr
      have b0 := (Ext.drew W).cell (bT.cell 0)
      have b1 := (Ext.drew W).cell (bT.cell 1)
      have hXd := hXW.trans (Ext.drew W)
      have hBd := hB.ext hXd
      have hEd := hE.trans hXd
      have hrv := reversed_c _ t.l W.drew (o1.ext hXd) f1 (by omega)
      have hsL : (bsS (digB t.l.reverse)).size ≤ 200 := by rw [bs_size]; simp [digB]; omega
      have hsR : (bsS (digB t.r)).size ≤ 200 := by rw [bs_size]; simp [digB]; omega
      have hA := tapT_app t
      have hdL : ∀ (v : Value) (w : World), Ints w v t.l.reverse → Calls Tryz.prog 42 #[v] w fun e w' => e = .returned (.string (bsS (digB t.l.reverse))) ∧ Ext w w' := fun v w h => digitsText_c v _ w h (fun z hz => d3 z (List.mem_reverse.1 hz)) (by simp; omega)
      have hdR : ∀ (v : Value) (w : World), Ints w v t.r → Calls Tryz.prog 42 #[v] w fun e w' => e = .returned (.string (bsS (digB t.r))) ∧ Ext w w' := fun v w h => digitsText_c v _ w h d4 (by omega)
      generalize bsS (digB t.l.reverse) = sL at *
      generalize bsS (digB t.r) = sR at *
      have z1 : (⟨#[124]⟩ : ByteArray).size = 1 := rfl
      have z2 : (⟨#[94]⟩ : ByteArray).size = 1 := rfl
      have hss : ((⟨#[124]⟩ : ByteArray) ++ sL ++ ⟨#[94]⟩ ++ sR).size ≤ 402 := by
        rw [ByteArray.size_append, ByteArray.size_append, ByteArray.size_append]; omega
      have m1 : ¬ 9223372036854775807 < 1 + sL.size := by omega
      have m2 : ¬ 9223372036854775807 < 1 + sL.size + 1 := by omega
      have m3 : ¬ 9223372036854775807 < 1 + sL.size + 1 + sR.size := by omega
      have HA := Lib.hid hA
      clear hA hTk hX hdt
      go_wp2_with fail
      try rw [hgr]
      try rw [hW]
      clear hW hXW bT hB
      refine wp_region_ordT 10 (readsT [0, 1, 6, 7] (.stir 2 (.stir 3 (readsT [4, 5] (.stir 8 (readsT [9] .done)))))) (by kernel_rfl) (by kernel_rfl) (fun _ _ _ _ _ h => h) ?_
      simp only [readsT]
      iterate 4 (refine wpOrdT_read (v := ?_) (by rfl) (Or.inl ⟨by rfl, fun x hx => ?_⟩) ?_; rotate_left; (· have a1 := hx.cell b0; have a2 := hx.cell b1; go_simp; try with_reducible rfl); try simp only [Act.put, List.setIfInBounds_toArray, List.set_cons_zero, List.set_cons_succ])
      refine wpOrdT_keep (by rfl) (fun K hK => ?_)
      go_simp
      refine hrv.mono ?_
      rintro e w3 ⟨u, rfl, ho, hx3⟩
      obtain ⟨Au, cu, rfl, _, _⟩ := ho.ints.form
      rw [List.length_reverse] at *
      refine hK _ _ hx3 ?_
      clear hK K
      refine wpOrdT_keep (by rfl) (fun K hK => ?_)
      go_simp
      refine (hdL _ w3 (by simpa using ho.ints)).mono ?_
      rintro e w4 ⟨rfl, hx4⟩
      refine hK _ _ (hx3.trans hx4) ?_
      clear hK K
      refine wpOrdT_read (v := ?_) (by rfl) (Or.inl ⟨by rfl, fun x hx => ?_⟩) ?_
      rotate_left
      · go_simp; try with_reducible rfl
      try simp only [Act.put, List.setIfInBounds_toArray, List.set_cons_zero, List.set_cons_succ]
      refine wpOrdT_read (v := ?_) (by rfl) (Or.inl ⟨by rfl, fun x hx => ?_⟩) ?_
      rotate_left
      · go_simp; try with_reducible rfl
      try simp only [Act.put, List.setIfInBounds_toArray, List.set_cons_zero, List.set_cons_succ]
      refine wpOrdT_keep (by rfl) (fun K hK => ?_)
      go_simp
      refine (hdR _ w4 (o2.ext (hXd.trans (hx3.trans hx4)))).mono ?_
      rintro e w5 ⟨rfl, hx5⟩
      have hx := (hx3.trans hx4).trans hx5
      refine hK _ _ hx ?_
      clear hK K
      refine wpOrdT_read (v := ?_) (by rfl) (Or.inl ⟨by rfl, fun x hx => ?_⟩) ?_
      rotate_left
      · go_simp; try with_reducible rfl
      try simp only [Act.put, List.setIfInBounds_toArray, List.set_cons_zero, List.set_cons_succ]
      refine wpOrdT_done ?_
      try simp only [List.drop_succ_cons, List.drop_zero]
      have WS := writeStringA_c (g + 1) (g + 1) acc _ w5 (hBd.ext hx) (Nat.le_trans (Nat.add_le_add hll hss) (by omega)) (by have := (hEd.trans hx).size; omega)
      rw [HA.out] at WS
      generalize (⟨#[124]⟩ : ByteArray) ++ sL ++ ⟨#[94]⟩ ++ sR = st at *
      go_wp2_with fail
      refine WS.mono ?_
      rintro e w6 ⟨rfl, hB6, hX6⟩
      have hE6 := ext_below (hEd.trans hx) hs0 hX6
      go_wp2
      go_roundw
      case rel => exact ⟨k + 1, by omega, by go_num, by rw [hnx.out]; exact .inr hB6, hE6⟩
      case measure => simp [intOf]; omega
    · have hke : c.tapes.take k = c.tapes := List.take_of_length_le (by omega)
      rw [hke] at hB
      clear hke
      have hst := Tryz.Builder_String_any (g + 1) (g + 1) _ wr hB (by have := hE.size; omega)
      go_wp2_with fail
      refine hst.mono ?_
      rintro e w2 ⟨rfl, hX2⟩
      go_wp2
      go_ret
      refine ⟨?_, hX0.trans (ext_below hE hs0 hX2)⟩
      rw [← hHD]
      rfl
end Go.Proofs.YtgeckhjkahnonaaGreatDoor
end
