/- Plain words: lists of texts as cells; the letters of a valid configuration.
Contract of the program's text of a configuration with several tapes. The listed tables of the library hold what they should.
Plain words: the texts of the run of the machine with one tape for several. -/
import Derived.Test.YtfghojbbofobeaaGreatDoorW32
import Derived.Test.YtfghojbbofobeaaGreatDoorW31
import Derived.Test.YtfghojbbofobeaaGreatDoorW07
import Derived.Lib.IndexMore
import Derived.Test.YtfghojbbofobeaaGreatDoorW16
import Derived.Test.YtfghojbbofobeaaGreatDoorW04
import Derived.Test.YtfghojbbofobeaaGreatDoorW12
import Derived.Test.YtfghojbbofobeaaGreatDoorW19
import Derived.Test.YtfghojbbofobeaaGreatDoorW30
section
set_option linter.unusedSimpArgs false
set_option linter.unusedVariables false
namespace Go.Proofs.YtfghojbbofobeaaGreatDoor
open Go Go.RowKit Go.Proofs
def svB (xs : List (List UInt8)) : List Value := xs.map fun l => Value.string (bsS l)
end Go.Proofs.YtfghojbbofobeaaGreatDoor
end
section
set_option linter.unusedSimpArgs false
set_option linter.unusedVariables false
namespace Go.Proofs.YtfghojbbofobeaaGreatDoor
open Go Go.RowKit Go.Proofs
set_option maxHeartbeats 400000
theorem Bldr.ext {B b : Nat} {l : List UInt8} {w w' : World} (h : Bldr B b l w) (he : Ext w w') : Bldr B b l w' := by
  rcases h with ⟨hB, v, hbk, hown, hne⟩ | ⟨hB, v, hbk, hown, hne⟩
  · exact .inl ⟨hB, v, he.block hbk, ownsRow_ext hown he, hne⟩
  · exact .inr ⟨hB, v, he.block hbk, ownsRow_ext hown he, hne⟩
/-- The text of a tape. -/
def tapT (t : TapeD) : List UInt8 := [124] ++ digB t.l.reverse ++ [94] ++ digB t.r
/-- The text of a configuration with several tapes. -/
def mconT (c : MConfD) : List UInt8 := [40] ++ Lib.itoa c.q ++ [41] ++ c.tapes.flatMap tapT
/-- What a configuration must be for its text. -/
structure MDig (c : MConfD) : Prop where
  q0 : 0 ≤ c.q
  q9 : c.q ≤ 999
  n : c.tapes.length ≤ 3
  t : ∀ t ∈ c.tapes, t.l.length ≤ 200 ∧ t.r.length ≤ 200 ∧ (∀ z ∈ t.l, 0 ≤ z ∧ z ≤ 9) ∧ ∀ z ∈ t.r, 0 ≤ z ∧ z ≤ 9
theorem tapT_len (t : TapeD) (h1 : t.l.length ≤ 200) (h2 : t.r.length ≤ 200) : (tapT t).length ≤ 402 := by simp [tapT, digB]; omega
theorem flatT_len : ∀ (ts : List TapeD), (∀ t ∈ ts, t.l.length ≤ 200 ∧ t.r.length ≤ 200) → (ts.flatMap tapT).length ≤ 402 * ts.length
  | [], _ => by simp
  | t :: ts, h => by
    have ih := flatT_len ts (fun x hx => h x (by simp [hx]))
    have h0 := h t (by simp)
    have := tapT_len t h0.1 h0.2
    simp only [List.flatMap_cons, List.length_append, List.length_cons]
    omega
theorem tapT_app (t : TapeD) : (((⟨#[124]⟩ : ByteArray) ++ bsS (digB t.l.reverse) ++ ⟨#[94]⟩ ++ bsS (digB t.r)).data.toList) = tapT t := by
  simp [tapT, ByteArray.data_append]
theorem headQ_app (q : Int) : (((⟨#[40]⟩ : ByteArray) ++ itoaS q ++ ⟨#[41]⟩).data.toList) = [40] ++ Lib.itoa q ++ [41] := by
  simp [itoaS, ByteArray.data_append]
set_option maxRecDepth 20000 in
set_option maxHeartbeats 4000000 in
theorem multiConfigText_c (c : MConfD) (b off cap : Nat) (w : World) (hT : TapF w b off c.tapes) (h1 : c.tapes.length ≤ cap) (h2 : cap ≤ 9223372036854775807) (hd : MDig c) (hTb : Tab w) :
    Calls Tryz.prog 38 #[.agg #[.int .i64 c.q, .slice (some ⟨b, off, none⟩) c.tapes.length cap]] w fun e w' => e = .returned (.string (bsS (mconT c))) ∧ Ext w w' := by
  obtain ⟨q0, q9, n3, hdt⟩ := hd
  obtain ⟨g, hg⟩ : ∃ g, w.heap.size = g := ⟨_, rfl⟩
  obtain ⟨W0, hW0⟩ : ∃ W0, W0 = w.alloc (.cells #[.int .i64 c.q, .slice (some ⟨b, off, none⟩) c.tapes.length cap] 68) := ⟨_, rfl⟩
  have hX0 : Ext w W0 := by rw [hW0]; exact Ext.alloc _ _
  have hs0 : W0.heap.size = g + 1 := by rw [hW0]; simp [hg]
  obtain ⟨W, hW⟩ : ∃ W, W = W0.alloc (.cells #[.pointer none, .slice none 0 0] 138) := ⟨_, rfl⟩
  have hX1 : Ext W0 W := by rw [hW]; exact Ext.alloc _ _
  have hB : Bldr (g + 1) (g + 1) [] W := by
    have := Lib.fresh_isBuilder 138 5 W0
    rw [hs0] at this
    rw [hW]
    exact this
  have bC : Blk W g 68 #[.int .i64 c.q, .slice (some ⟨b, off, none⟩) c.tapes.length cap] := by
    have : Blk W0 g 68 #[.int .i64 c.q, .slice (some ⟨b, off, none⟩) c.tapes.length cap] := by rw [hW0]; exact Blk.new _ _ _ _ hg
    exact this.ext hX1
  have bC00 : Blk W0 g 68 #[.int .i64 c.q, .slice (some ⟨b, off, none⟩) c.tapes.length cap] := by rw [hW0]; exact Blk.new _ _ _ _ hg
  have c0 := bC.cell 0
  simp only [List.getElem?_toArray, List.getElem?_cons_zero, List.getElem?_cons_succ] at c0
  have hX := hX0.trans hX1
  have hWs : g + 1 ≤ W.heap.size := by have := hX1.size; omega
  have DC := Decimal_c c.q W (by omega) (by omega) (hTb.ext hX)
  have hsQ := itoaS_size (n := c.q) q0 (by omega)
  have HQA := Lib.hid (headQ_app c.q)
  have hqs : ((⟨#[40]⟩ : ByteArray) ++ itoaS c.q ++ ⟨#[41]⟩).size ≤ 30 := by
    have z1 : (⟨#[40]⟩ : ByteArray).size = 1 := rfl
    have z2 : (⟨#[41]⟩ : ByteArray).size = 1 := rfl
    rw [ByteArray.size_append, ByteArray.size_append]; omega
  have hqs0 := hqs
  rw [hW0] at hW
  go_enter Tryz.func38, Tryz.ntmps38
  go_wp2_with fail
  try rw [← hW]
  try rw [hg]
  clear hW hW0
  refine DC.mono ?_
  rintro e w1 ⟨rfl, hx1⟩
  have hB1 := hB.ext hx1
  have WS := writeStringA_c (g + 1) (g + 1) [] _ w1 hB1 (by rw [List.length_nil, Nat.zero_add]; exact Nat.le_trans hqs (by omega)) (by have := hx1.size; omega)
  rw [HQA.out, List.nil_append] at WS
  obtain ⟨sq, hsq⟩ : ∃ s, (⟨#[40]⟩ : ByteArray) ++ itoaS c.q ++ ⟨#[41]⟩ = s := ⟨_, rfl⟩
  have bC1 := bC.ext hx1
  have hX1' := hX.trans hx1
  have k1 : ¬ 9223372036854775807 < 1 + (itoaS c.q).size := by omega
  have k2 : ¬ 9223372036854775807 < 1 + (itoaS c.q).size + 1 := by omega
  rw [hsq] at WS hqs
  have hE1 : Ext W0 w1 := hX1.trans hx1
  have hb0 : ∀ {x : World}, Ext W0 x → Blk x g 68 #[.int .i64 c.q, .slice (some ⟨b, off, none⟩) c.tapes.length cap] := fun hx => by
    have : Blk W0 g 68 #[.int .i64 c.q, .slice (some ⟨b, off, none⟩) c.tapes.length cap] := bC00
    exact this.ext hx
  clear DC hB hx1 bC c0
  go_wp2_with fail
  refine WS.mono ?_
  rintro e w2 ⟨rfl, hB2, hX2⟩
  have hE2 : Ext W0 w2 := ext_below hE1 hs0 hX2
  have c1 := (hb0 hE2).cell 1
  simp only [List.getElem?_toArray, List.getElem?_cons_zero, List.getElem?_cons_succ] at c1
  generalize hHD : [40] ++ Lib.itoa c.q ++ [41] = hd0 at *
  have hhd : hd0.length ≤ 30 := by rw [← HQA.out, Array.length_toList]; exact hqs0
  clear WS hB1 hE1 hX1 hX1' bC1 hsq hqs hqs0 k1 k2
  go_wp2_with fail
  go_loopw [15] (fun i wr => ∃ k : Nat, k ≤ c.tapes.length ∧ i = .int .i64 (k : Int) ∧ Bldr (g + 1) (g + 1) (hd0 ++ (c.tapes.take k).flatMap tapT) wr ∧ Ext W0 wr) (fun i _ => c.tapes.length - (intOf i).toNat)
  case atStart => exact ⟨0, Nat.zero_le _, rfl, .inr (by simpa using hB2), hE2⟩
  case round =>
    clear hB2 hX2 hE2 c1
    obtain ⟨k, hk, rfl, hB, hE⟩ := hrel
    by_cases hlt : k < c.tapes.length
    · have hTk := (hT.ext hX0).ext hE
      obtain ⟨lv, rv, t0, t1, o1, o2, f1, f2, n1, n2⟩ := hTk k hlt
      have hdk := hdt _ (List.getElem_mem hlt)
      have hnx : Hid (hd0 ++ (c.tapes.take (k + 1)).flatMap tapT = (hd0 ++ (c.tapes.take k).flatMap tapT) ++ tapT c.tapes[k]) := Lib.hid (by rw [List.take_succ_eq_append_getElem hlt, List.flatMap_append, List.append_assoc]; simp)
      have hll : (hd0 ++ (c.tapes.take k).flatMap tapT).length ≤ 1300 := by
        have := flatT_len (c.tapes.take k) (fun t ht => ⟨(hdt t (List.mem_of_mem_take ht)).1, (hdt t (List.mem_of_mem_take ht)).2.1⟩)
        rw [List.length_append]
        simp only [List.length_take] at this
        omega
      generalize hd0 ++ (c.tapes.take k).flatMap tapT = acc at *
      generalize c.tapes[k] = t at *
      obtain ⟨d1, d2, d3, d4⟩ := hdk
      obtain ⟨A1, e1, rfl, _, _⟩ := o1.form
      obtain ⟨A2, e2, rfl, _, _⟩ := o2.form
      obtain ⟨gr, hgr⟩ : ∃ gr, wr.heap.size = gr := ⟨_, rfl⟩
      obtain ⟨W, hW⟩ : ∃ W, wr.alloc (.cells #[.slice A1 t.l.length e1, .slice A2 t.r.length e2] 110) = W := ⟨_, rfl⟩
      have hXW : Ext wr W := by rw [← hW]; exact Ext.alloc _ _
      have bT : Blk W gr 110 #[.slice A1 t.l.length e1, .slice A2 t.r.length e2] := by rw [← hW]; exact Blk.new _ _ _ _ hgr
      have b0 := (Ext.drew W).cell (bT.cell 0)
      have b1 := (Ext.drew W).cell (bT.cell 1)
      have hXd := hXW.trans (Ext.drew W)
      have hBd := hB.ext hXd
      have hEd := hE.trans hXd
      have hrv := reversed_c _ t.l W.drew (o1.ext hXd) f1 (by omega)
      have hsL : (bsS (digB t.l.reverse)).size ≤ 200 := by rw [bs_size]; simp [digB]; omega
      have hsR : (bsS (digB t.r)).size ≤ 200 := by rw [bs_size]; simp [digB]; omega
      have hA := tapT_app t
      have hdL : ∀ (v : Value) (w : World), Ints w v t.l.reverse → Calls Tryz.prog 78 #[v] w fun e w' => e = .returned (.string (bsS (digB t.l.reverse))) ∧ Ext w w' := fun v w h => digitsText_c v _ w h (fun z hz => d3 z (List.mem_reverse.1 hz)) (by simp; omega)
      have hdR : ∀ (v : Value) (w : World), Ints w v t.r → Calls Tryz.prog 78 #[v] w fun e w' => e = .returned (.string (bsS (digB t.r))) ∧ Ext w w' := fun v w h => digitsText_c v _ w h d4 (by omega)
      generalize bsS (digB t.l.reverse) = sL at *
      generalize bsS (digB t.r) = sR at *
      have z1 : (⟨#[124]⟩ : ByteArray).size = 1 := rfl
      have z2 : (⟨#[94]⟩ : ByteArray).size = 1 := rfl
      have hss : ((⟨#[124]⟩ : ByteArray) ++ sL ++ ⟨#[94]⟩ ++ sR).size ≤ 402 := by
        rw [ByteArray.size_append, ByteArray.size_append, ByteArray.size_append]; omega
      have m1 : ¬ 9223372036854775807 < 1 + sL.size := by omega
      have m2 : ¬ 9223372036854775807 < 1 + sL.size + 1 := by omega
      have m3 : ¬ 9223372036854775807 < 1 + sL.size + 1 + sR.size := by omega
      have HA := Lib.hid hA
      clear hA hTk hX hdt
      go_wp2_with fail
      try rw [hgr]
      try rw [hW]
      clear hW hXW bT hB
      refine wp_region_ordT 10 (readsT [0, 1, 6, 7] (.stir 2 (.stir 3 (readsT [4, 5] (.stir 8 (readsT [9] .done)))))) (by kernel_rfl) (by kernel_rfl) (fun _ _ _ _ _ h => h) ?_
      simp only [readsT]
      iterate 4 (refine wpOrdT_read (v := ?_) (by rfl) (Or.inl ⟨by rfl, fun x hx => ?_⟩) ?_; rotate_left; (· have a1 := hx.cell b0; have a2 := hx.cell b1; go_simp; try with_reducible rfl); try simp only [Act.put, List.setIfInBounds_toArray, List.set_cons_zero, List.set_cons_succ])
      refine wpOrdT_keep (by rfl) (fun K hK => ?_)
      go_simp
      refine hrv.mono ?_
      rintro e w3 ⟨u, rfl, ho, hx3⟩
      obtain ⟨Au, cu, rfl, _, _⟩ := ho.ints.form
      rw [List.length_reverse] at *
      refine hK _ _ hx3 ?_
      clear hK K
      refine wpOrdT_keep (by rfl) (fun K hK => ?_)
      go_simp
      refine (hdL _ w3 (by simpa using ho.ints)).mono ?_
      rintro e w4 ⟨rfl, hx4⟩
      refine hK _ _ (hx3.trans hx4) ?_
      clear hK K
      refine wpOrdT_read (v := ?_) (by rfl) (Or.inl ⟨by rfl, fun x hx => ?_⟩) ?_
      rotate_left
      · go_simp; try with_reducible rfl
      try simp only [Act.put, List.setIfInBounds_toArray, List.set_cons_zero, List.set_cons_succ]
      refine wpOrdT_read (v := ?_) (by rfl) (Or.inl ⟨by rfl, fun x hx => ?_⟩) ?_
      rotate_left
      · go_simp; try with_reducible rfl
      try simp only [Act.put, List.setIfInBounds_toArray, List.set_cons_zero, List.set_cons_succ]
      refine wpOrdT_keep (by rfl) (fun K hK => ?_)
      go_simp
      refine (hdR _ w4 (o2.ext (hXd.trans (hx3.trans hx4)))).mono ?_
      rintro e w5 ⟨rfl, hx5⟩
      have hx := (hx3.trans hx4).trans hx5
      refine hK _ _ hx ?_
      clear hK K
      refine wpOrdT_read (v := ?_) (by rfl) (Or.inl ⟨by rfl, fun x hx => ?_⟩) ?_
      rotate_left
      · go_simp; try with_reducible rfl
      try simp only [Act.put, List.setIfInBounds_toArray, List.set_cons_zero, List.set_cons_succ]
      refine wpOrdT_done ?_
      try simp only [List.drop_succ_cons, List.drop_zero]
      have WS := writeStringA_c (g + 1) (g + 1) acc _ w5 (hBd.ext hx) (Nat.le_trans (Nat.add_le_add hll hss) (by omega)) (by have := (hEd.trans hx).size; omega)
      rw [HA.out] at WS
      generalize (⟨#[124]⟩ : ByteArray) ++ sL ++ ⟨#[94]⟩ ++ sR = st at *
      go_wp2_with fail
      refine WS.mono ?_
      rintro e w6 ⟨rfl, hB6, hX6⟩
      have hE6 := ext_below (hEd.trans hx) hs0 hX6
      go_wp2
      go_roundw
      case rel => exact ⟨k + 1, by omega, by go_num, by rw [hnx.out]; exact .inr hB6, hE6⟩
      case measure => simp [intOf]; omega
    · have hke : c.tapes.take k = c.tapes := List.take_of_length_le (by omega)
      rw [hke] at hB
      clear hke
      have hst := Tryz.Builder_String_any (g + 1) (g + 1) _ wr hB (by have := hE.size; omega)
      go_wp2_with fail
      refine hst.mono ?_
      rintro e w2 ⟨rfl, hX2⟩
      go_wp2
      go_ret
      refine ⟨?_, hX0.trans (ext_below hE hs0 hX2)⟩
      rw [← hHD]
      rfl
end Go.Proofs.YtfghojbbofobeaaGreatDoor
end
section
set_option linter.unusedSimpArgs false
set_option linter.unusedVariables false
namespace Go.Proofs.YtfghojbbofobeaaGreatDoor
open Go Go.RowKit Go.Proofs
theorem ixT_few {T f : Nat} (hT : T = 2 ∨ T = 3) (hf : f < T) : ∀ n, (ixT T f n).length * T + f < n + T
  | 0 => by simp [ixT_zero]; exact hf
  | n + 1 => by
    have ih := ixT_few hT hf n
    by_cases h : n % T = f
    · rw [ixT_hit h, List.length_append, List.length_singleton]
      rcases hT with rfl | rfl <;> omega
    · rw [ixT_miss h]
      omega
theorem lineC_few {m : MultiD} {c : ConfD} {t0 j : Int} (h1 : 2 ≤ m.tp) (h2 : m.tp ≤ 3) (hl : c.l.length ≤ 200) (hr : c.r.length ≤ 200) : (lineC m c t0 j).length ≤ 200 := by
  have hf := frstC_lt (T := m.tp) (t0 := t0) (j := j) h1 c.l.length
  have hT : m.tp.toNat = 2 ∨ m.tp.toNat = 3 := by omega
  have hn : (cellsC c).length ≤ 400 := by simp [cellsC]; omega
  have := ixT_few hT hf (cellsC c).length
  unfold lineC lineT
  rw [List.length_map]
  rcases hT with e | e <;> rw [e] at this hf ⊢ <;> omega
theorem tapeDec_all {sy : Int} {zs : List Int} {t : TapeD} (h : tapeDec sy zs = some t) (hb : ∀ z ∈ zs, 0 ≤ z ∧ z ≤ 2 * sy - 1) :
    (t.l.length ≤ zs.length ∧ t.r.length ≤ zs.length) ∧ (∀ z ∈ t.l, 0 ≤ z ∧ z ≤ sy - 1) ∧ ∀ z ∈ t.r, 0 ≤ z ∧ z ≤ sy - 1 := by
  unfold tapeDec at h
  cases hf : zs.findIdx? (markB sy) with
  | none => rw [hf] at h; cases h
  | some k =>
    rw [hf] at h
    simp only at h
    obtain ⟨hk, hmk, hbef⟩ := List.findIdx?_eq_some_iff_getElem.1 hf
    split at h
    · cases h
    · rename_i hany
      injection h with h
      rw [← h]
      have a := trim_len (zs.take k).reverse
      have b := trim_len ((zs.getD k 0 - sy) :: zs.drop (k + 1))
      rw [List.length_reverse, List.length_take] at a
      rw [List.length_cons, List.length_drop] at b
      refine ⟨⟨by simp only; omega, by simp only; omega⟩, fun z hz => ?_, fun z hz => ?_⟩
      · have h1 := trim_mem hz
        rw [List.mem_reverse, List.mem_take_iff_getElem] at h1
        obtain ⟨i, hi, rfl⟩ := h1
        have hi2 : i < zs.length := by omega
        have h2 := hb _ (List.getElem_mem hi2)
        have h3 := hbef i (by omega)
        unfold markB at h3
        simp only [decide_eq_true_eq] at h3
        omega
      · have h1 := trim_mem hz
        rcases List.mem_cons.1 h1 with e | h1
        · have h2 := hb _ (List.getElem_mem hk)
          have e2 : zs.getD k 0 = zs[k] := by rw [List.getD_eq_getElem?_getD, List.getElem?_eq_getElem hk]; rfl
          rw [e2] at e
          unfold markB at hmk
          simp only [decide_eq_true_eq] at hmk
          omega
        · have h2 := hb _ (List.mem_of_mem_drop h1)
          have h3 : markB sy z = false := by
            cases hq : markB sy z with
            | false => rfl
            | true => exact absurd (List.any_eq_true.2 ⟨z, h1, hq⟩) hany
          unfold markB at h3
          simp only [decide_eq_false_iff_not] at h3
          omega
theorem decTapes_all {m : MultiD} {c : ConfD} {t0 : Int} (h1 : 2 ≤ m.tp) (h2 : m.tp ≤ 3) (hs : 1 ≤ m.sy) (hl : c.l.length ≤ 200) (hr : c.r.length ≤ 200) (hB1 : ∀ z ∈ c.l, 0 ≤ z ∧ z ≤ 2 * m.sy - 1) (hB2 : ∀ z ∈ c.r, 0 ≤ z ∧ z ≤ 2 * m.sy - 1) :
    ∀ {j : Nat} {l : List TapeD}, decTapes m c t0 j = some l → ∀ t ∈ l, (t.l.length ≤ 200 ∧ t.r.length ≤ 200) ∧ (∀ z ∈ t.l, 0 ≤ z ∧ z ≤ m.sy - 1) ∧ ∀ z ∈ t.r, 0 ≤ z ∧ z ≤ m.sy - 1
  | 0, l, h => by
    simp [decTapes] at h
    simp [h]
  | j + 1, l, h => by
    unfold decTapes at h
    cases h3 : decTapes m c t0 j with
    | none => rw [h3] at h; cases h
    | some l1 =>
      cases h4 : tapeDec m.sy (lineC m c t0 (j : Int)) with
      | none => rw [h3, h4] at h; cases h
      | some t =>
        rw [h3, h4] at h
        injection h with h
        intro t' ht'
        rw [← h] at ht'
        rcases List.mem_append.1 ht' with ht' | ht'
        · exact decTapes_all h1 h2 hs hl hr hB1 hB2 h3 t' ht'
        · rw [List.mem_singleton.1 ht']
          have hlen := lineC_few (m := m) (c := c) (t0 := t0) (j := (j : Int)) h1 h2 hl hr
          obtain ⟨⟨a, b⟩, d, e⟩ := tapeDec_all h4 (lineC_mem (by omega) hB1 hB2)
          exact ⟨⟨by omega, by omega⟩, d, e⟩
/-- What a decoded configuration must be for its text. -/
theorem decOne_dig {m : MultiD} (hm : multiOk m = true) {p : MP} (hp : WOk m p) {c : ConfD} (hl : c.l.length ≤ 200) (hr : c.r.length ≤ 200) (hB1 : ∀ z ∈ c.l, 0 ≤ z ∧ z ≤ 2 * m.sy - 1) (hB2 : ∀ z ∈ c.r, 0 ≤ z ∧ z ≤ 2 * m.sy - 1) (hk : (decOne m p c).2 = 0) :
    MDig (decOne m p c).1 ∧ 0 < (decOne m p c).1.tapes.length := by
  obtain ⟨⟨tp1, tp2⟩, ⟨y1, y2⟩, ⟨s1, s2⟩, _⟩ := multi_all hm
  unfold decOne at hk ⊢
  split
  · rename_i h0
    rw [if_pos h0] at hk
    cases hd : decTapes m c p.t m.tp.toNat with
    | none => rw [hd] at hk; simp at hk
    | some ts =>
      have hlen := decTapes_len hd
      have hall := decTapes_all tp1 tp2 (by omega) hl hr hB1 hB2 hd
      have ha : 0 ≤ p.a ∧ p.a < m.st := by
        rcases hp.kd with ⟨_, a, b, _⟩ | ⟨e | e, _⟩ | ⟨e, _⟩ | ⟨e, _⟩
        · exact ⟨a, b⟩
        all_goals omega
      refine ⟨⟨ha.1, by show p.a ≤ 999; omega, by show ts.length ≤ 3; omega, fun t ht => ?_⟩, by show 0 < ts.length; omega⟩
      obtain ⟨⟨a, b⟩, d, e⟩ := hall t ht
      exact ⟨a, b, fun z hz => by have := d z hz; omega, fun z hz => by have := e z hz; omega⟩
  · rename_i h0
    rw [if_neg h0] at hk
    simp at hk
/-- The text of the configuration for which one stands. -/
def txtW (m : MultiD) (p : MP) (x : ConfD) : List UInt8 := if p = lookP p.a then (if (decOne m p x).2 = 0 then mconT (decOne m p x).1 else []) else []
def txtO (m : MultiD) (s : List MP × List RuleD) (x : ConfD) : List UInt8 := txtW m (s.1.getD x.q.toNat mp0) x
/-- The texts and the code of the whole call. -/
def OTxt (m : MultiD) (ws : List (List Int)) (n : Int) (L : List (List UInt8)) (k : Int) : Prop :=
  if multiOk m then
    if inB n 0 599 then
      match weaveB m with
      | none => L = [] ∧ k = 5
      | some s => if (startOC m ws).2 = 0 then TRun (oneM m s) (startO m ws) n.toNat (txtO m s) L k else L = [] ∧ k = (startOC m ws).2
    else L = [] ∧ k = 2
  else L = [] ∧ k = 1
theorem OTxt.bad {m : MultiD} {ws : List (List Int)} {n : Int} (h : multiOk m = false) : OTxt m ws n [] 1 := by
  unfold OTxt
  rw [h]
  exact ⟨rfl, rfl⟩
theorem OTxt.steps {m : MultiD} {ws : List (List Int)} {n : Int} (h : multiOk m = true) (hn : inB n 0 599 = false) : OTxt m ws n [] 2 := by
  unfold OTxt
  rw [if_pos h, hn]
  exact ⟨rfl, rfl⟩
theorem OTxt.big {m : MultiD} {ws : List (List Int)} {n : Int} (h : multiOk m = true) (hn : inB n 0 599 = true) (hs : weaveB m = none) : OTxt m ws n [] 5 := by
  unfold OTxt
  rw [if_pos h, if_pos hn, hs]
  exact ⟨rfl, rfl⟩
theorem OTxt.start {m : MultiD} {ws : List (List Int)} {n : Int} {s : List MP × List RuleD} (h : multiOk m = true) (hn : inB n 0 599 = true) (hs : weaveB m = some s) (hk : (startOC m ws).2 ≠ 0) : OTxt m ws n [] (startOC m ws).2 := by
  unfold OTxt
  rw [if_pos h, if_pos hn, hs]
  show (if (startOC m ws).2 = 0 then _ else _)
  rw [if_neg hk]
  exact ⟨rfl, rfl⟩
theorem OTxt.run {m : MultiD} {ws : List (List Int)} {n : Int} {s : List MP × List RuleD} {L : List (List UInt8)} {k : Int} (h : multiOk m = true) (hn : inB n 0 599 = true) (hs : weaveB m = some s) (hk : (startOC m ws).2 = 0) (hr : TRun (oneM m s) (startO m ws) n.toNat (txtO m s) L k) : OTxt m ws n L k := by
  unfold OTxt
  rw [if_pos h, if_pos hn, hs]
  show (if (startOC m ws).2 = 0 then _ else _)
  rw [if_pos hk]
  exact hr
theorem OTxt.unique {m : MultiD} {ws : List (List Int)} {n : Int} {L L' : List (List UInt8)} {k k' : Int} (h : OTxt m ws n L k) (h' : OTxt m ws n L' k') : L = L' ∧ k = k' := by
  unfold OTxt at h h'
  split at h
  · rename_i h0
    rw [if_pos h0] at h'
    split at h
    · rename_i h1
      rw [if_pos h1] at h'
      cases hw : weaveB m with
      | none =>
        rw [hw] at h h'
        exact ⟨h.1.trans h'.1.symm, h.2.trans h'.2.symm⟩
      | some s =>
        rw [hw] at h h'
        simp only at h h'
        split at h
        · rename_i h2
          rw [if_pos h2] at h'
          exact h.unique h'
        · rename_i h2
          rw [if_neg h2] at h'
          exact ⟨h.1.trans h'.1.symm, h.2.trans h'.2.symm⟩
    · rename_i h1
      rw [if_neg h1] at h'
      exact ⟨h.1.trans h'.1.symm, h.2.trans h'.2.symm⟩
  · rename_i h0
    rw [if_neg h0] at h'
    exact ⟨h.1.trans h'.1.symm, h.2.trans h'.2.symm⟩
theorem OTxt.len {m : MultiD} {ws : List (List Int)} {n : Int} {L : List (List UInt8)} {k : Int} (h : OTxt m ws n L k) : L.length ≤ 601 := by
  unfold OTxt at h
  split at h
  · split at h
    · rename_i hn
      have hb := inB_iff.1 hn
      split at h
      · rw [h.1]; simp
      · split at h
        · rcases h with ⟨T, hE, rfl, _⟩ | ⟨_, rfl, _⟩
          · have := hE.le
            simp only [List.length_map, List.length_range]
            omega
          · simp
        · rw [h.1]; simp
    · rw [h.1]; simp
  · rw [h.1]; simp
end Go.Proofs.YtfghojbbofobeaaGreatDoor
end
