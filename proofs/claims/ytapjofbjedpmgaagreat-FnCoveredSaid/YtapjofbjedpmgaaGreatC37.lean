/- Contracts: lists put into a set.
Contracts: the windows of a side.
Plain words on proofs by contexts: what a rule makes of a context, what a proof covers, and that a step stays in it. -/
import Derived.Test.YtapjofbjedpmgaaGreatC29
import Derived.Test.YtapjofbjedpmgaaGreatC36
import Derived.Maps.GroupsBeside
import Derived.Test.YtapjofbjedpmgaaGreatC28
import Derived.Test.YtapjofbjedpmgaaGreatC05
section
set_option linter.unusedSimpArgs false
set_option linter.unusedVariables false
namespace Go.Proofs.YtapjofbjedpmgaaGreat
open Go Go.RowKit Go.Proofs Go.Maps
set_option maxHeartbeats 400000
theorem TblK.isMap {w : World} {b n : Nat} {T : List Int → Bool} (h : TblK w b n T) : ∃ es c, w.heap[b]? = some (.map es c) := by
  obtain ⟨D, ⟨es, clock, hb, _⟩, _⟩ := h
  exact ⟨es, clock, hb⟩
theorem Row.mapKept {w w' : World} {size n mb : Nat} {v : Value} {xs : List Value} (h : Row w size v n xs) (hg : w.grownBy w' (some mb)) (hm : ∃ es c, w.heap[mb]? = some (.map es c)) : Row w' size v n xs := by
  obtain ⟨es, cl, hm⟩ := hm
  obtain ⟨A, c, rfl, h1, h1', h2, h3⟩ := h
  refine ⟨A, c, rfl, h1, h1', h2, fun hn => ?_⟩
  obtain ⟨b, off, rfl, hc⟩ := h3 hn
  refine ⟨b, off, rfl, fun j hj => ?_⟩
  have := hc j hj
  rw [List.getElem?_eq_getElem hj] at this ⊢
  exact cell_kept this hg (fun r hr => by injection hr with hr; subst hr; exact ⟨_, hm, rfl⟩)
theorem Ints.mapKept {w w' : World} {mb : Nat} {v : Value} {zs : List Int} (h : Ints w v zs) (hg : w.grownBy w' (some mb)) (hm : ∃ es c, w.heap[mb]? = some (.map es c)) : Ints w' v zs := Row.mapKept h hg hm
theorem Lists.mapKept {w w' : World} {mb : Nat} {v : Value} {xss : List (List Int)} (h : Lists w v xss) (hg : w.grownBy w' (some mb)) (hm : ∃ es c, w.heap[mb]? = some (.map es c)) : Lists w' v xss := by
  obtain ⟨vs, a, b⟩ := h
  exact ⟨vs, Row.mapKept a hg hm, fun i hi => by obtain ⟨u, c, d, e⟩ := b i hi; exact ⟨u, c, d.mapKept hg hm, e⟩⟩
theorem orT_snoc (T : List Int → Bool) (xss : List (List Int)) (x : List Int) : (fun ys => anyT (xss ++ [x]) ys || T ys) = fun ys => decide (ys = padI x) || (anyT xss ys || T ys) := by
  funext ys
  rw [anyT_snoc, Bool.or_assoc]
set_option maxRecDepth 200000 in
set_option maxHeartbeats 8000000 in
theorem add_c (g mb n len : Nat) (T : List Int → Bool) (v : Value) (xss : List (List Int)) (w : World) (hS : SetAt w g mb n len T) (h : Lists w v xss) (hx : n + xss.length ≤ 100000) (hz : ∀ x ∈ xss, 1 ≤ x.length ∧ x.length ≤ 10 ∧ ∀ z ∈ x, smallQ z) :
    Calls Tryz.prog 50 #[.pointer (some ⟨g, 0, none⟩), v] w fun e w' => e = .returned (.tuple #[]) ∧ SetAt w' g mb (n + xss.length) len (fun ys => anyT xss ys || T ys) ∧ w.grownBy w' (some mb) := by
  obtain ⟨A, c, rfl, _, _⟩ := id h.form
  have H := Lib.hid (And.intro h hS.tab.isMap)
  have hS0 : SetAt w g mb (n + 0) len (fun ys => anyT [] ys || T ys) := hS
  clear h hS
  go_enter Tryz.func50, Tryz.ntmps50
  go_wp2
  go_loopw [8] (fun i wr => ∃ k : Nat, k ≤ xss.length ∧ i = .int .i64 (k : Int) ∧ SetAt wr g mb (n + k) len (fun ys => anyT (xss.take k) ys || T ys) ∧ w.grownBy wr (some mb)) (fun i _ => xss.length - (intOf i).toNat)
  case atStart => exact ⟨0, Nat.zero_le _, rfl, hS0, World.grownBy.refl _ _⟩
  case round =>
    clear hS0
    obtain ⟨k, hk, rfl, hS, hx'⟩ := hrel
    by_cases hlt : k < xss.length
    · have hd : decide ((k : Int) < (xss.length : Int)) = true := decide_eq_true (by omega)
      obtain ⟨b, off, u, rfl, c0, hu, hf⟩ := Lists.at (H.out.1.mapKept hx' H.out.2) hlt
      obtain ⟨hz1, hz2, hz3⟩ := hz _ (List.getElem_mem hlt)
      have HT : Hid (xss.take (k + 1) = xss.take k ++ [xss[k]]) := Lib.hid (List.take_succ_eq_append_getElem hlt)
      obtain ⟨x, hxk⟩ : ∃ x, xss[k] = x := ⟨_, rfl⟩
      rw [hxk] at HT hu hz1 hz2 hz3
      have hwk : IntKind.i64.wrap ((k : Int) + 1) = ((k + 1 : Nat) : Int) := by rw [show (k : Int) + 1 = ((k + 1 : Nat) : Int) by omega]; exact IntWalk.i64_in _ (by omega)
      have hc1 : (k : Int) < (xss.length : Int) := by omega
      obtain ⟨bu, ou, cu, rfl⟩ := ints_at hu hz1
      have s0 := hS.blk.cell 0
      simp only [List.getElem?_toArray, List.getElem?_cons_zero] at s0
      have HS := Lib.hid hS
      have HU := Lib.hid (And.intro hu (And.intro hz1 (And.intro hz2 hz3)))
      have HX := Lib.hid hx'
      clear hS hu hz1 hz2 hz3 hx' hxk hf
      obtain ⟨nx, hnx⟩ : ∃ n, x.length = n := ⟨_, rfl⟩
      rw [hnx] at c0
      have HNX := Lib.hid hnx
      clear hnx
      go_upto_region 3 with fail
      refine wp_region_ordT 6 (readsT [0, 1, 2, 3, 4] (.stir 5 .done)) (by kernel_rfl) (by kernel_rfl) (fun _ _ _ _ _ h => h) ?_
      simp only [readsT]
      iterate 5 (refine wpOrdT_read (v := ?_) (by rfl) (Or.inl ⟨by rfl, fun x hx => ?_⟩) ?_; rotate_left; (· have s0 := hx.cell s0; go_simp; try with_reducible rfl); try simp only [Act.put, List.setIfInBounds_toArray, List.set_cons_zero, List.set_cons_succ])
      have hx0 : Ext wr wr.drew := Ext.drew wr
      generalize wr.drew = w0 at *
      refine wpOrdT_keep (by rfl) (fun K hK => ?_)
      go_simp
      go_at_call 66
      have JC := itemOf_c bu ou cu x w0 (HU.out.1.ext hx0) HU.out.2.2.1 HU.out.2.1
      rw [HNX.out] at JC
      refine JC.mono ?_
      rintro e w1 ⟨rfl, hx1⟩
      refine hK _ _ hx1 ?_
      clear hK K JC
      try simp only [Act.put, List.setIfInBounds_toArray, List.set_cons_zero, List.set_cons_succ]
      refine wpOrdT_done ?_
      try simp only [List.drop_succ_cons, List.drop_zero]
      have hx01 := hx0.trans hx1
      have hS1 := HS.out.ext hx01
      obtain ⟨w2, hup, hT2, hg2⟩ := hS1.tab.put (by unfold maxLen; omega) HU.out.2.2.1 HU.out.2.2.2
      have hgm : g ≠ mb := by
        rintro rfl
        obtain ⟨es, cl, hm⟩ := hS1.tab.isMap
        have hb := hS1.blk
        unfold Blk at hb
        rw [hm] at hb
        cases hb
      have hB2 := hS1.blk.kept hg2 (by simpa using hgm)
      have HX2 : Hid (w.grownBy w2 (some mb)) := Lib.hid (grownBy_trans (grownBy_trans HX.out (ext_grownBy hx01 _)) hg2)
      have HS2 : Hid (SetAt w2 g mb (n + (k + 1)) len (fun ys => anyT (xss.take (k + 1)) ys || T ys)) := Lib.hid (by rw [HT.out, orT_snoc]; exact ⟨hB2, hT2⟩)
      clear hx0 hx1 hx01 hS1 hT2 hg2 hB2 s0 hgm
      generalize itemV x = iv at *
      go_wp2
      go_roundw
      case rel => exact ⟨k + 1, by omega, by go_num, HS2.out, HX2.out⟩
      case measure => simp [intOf]; omega
    · have hd : decide ((k : Int) < (xss.length : Int)) = false := decide_eq_false (by omega)
      have hkk : k = xss.length := by omega
      rw [List.take_of_length_le (by omega)] at hS
      have HS := Lib.hid (hkk ▸ hS)
      clear hS
      go_wp2
      go_end0
      exact ⟨rfl, HS.out, hx'⟩
end Go.Proofs.YtapjofbjedpmgaaGreat
end
section
set_option linter.unusedSimpArgs false
set_option linter.unusedVariables false
namespace Go.Proofs.YtapjofbjedpmgaaGreat
open Go Go.RowKit Go.Proofs Go.Maps
set_option maxHeartbeats 400000
/-- The windows of a side up to an index. -/
def winL (xs : List Int) (n k : Nat) : List (List Int) := List.replicate n 0 :: (List.range (k - 1)).map fun i => cellsF xs (i + 1) n
theorem winL_succ (xs : List Int) (n k : Nat) (hk : 1 ≤ k) : winL xs n (k + 1) = winL xs n k ++ [cellsF xs k n] := by
  obtain ⟨j, rfl⟩ : ∃ j, k = j + 1 := ⟨k - 1, by omega⟩
  simp [winL, List.range_succ]
theorem cellsF_small {xs : List Int} (hz : ∀ z ∈ xs, smallQ z) (f n : Nat) : ∀ z ∈ cellsF xs f n, smallQ z := by
  intro z h
  simp only [cellsF, List.mem_map] at h
  obtain ⟨k, _, rfl⟩ := h
  rw [List.getD_eq_getElem?_getD]
  rcases hk : xs[f + k]? with _ | y
  · simp [smallQ]
  · exact hz _ (List.mem_of_getElem? hk)
set_option maxRecDepth 200000 in
set_option maxHeartbeats 2000000 in
theorem windowsOf_c (n : Nat) (v : Value) (xs : List Int) (w : World) (h : Ints w v xs) (hl : xs.length ≤ 5000) (hn : 1 ≤ n) (hn4 : n ≤ 4) (hz : ∀ z ∈ xs, smallQ z) :
    Calls Tryz.prog 37 #[v, .int .i64 (n : Int)] w fun e w' => ∃ g mb, e = .returned (.pointer (some ⟨g, 0, none⟩)) ∧ SetAt w' g mb (1 + xs.length) n (anyT (winL xs n xs.length)) ∧ Ext w w' := by
  obtain ⟨i0, hi, hz0, hz1, hz2⟩ := info_parts intInfo
  obtain ⟨A, c, rfl, _, _⟩ := id h.form
  have H := Lib.hid h
  clear h
  go_enter Tryz.func37, Tryz.ntmps37
  go_wp2_with (at_make; refine wpList_make_full _ rfl _ _ 27 rfl w.heap.size 2 i0 _ 1 Tryz.underlying27 hi hz0 hz1 .i64 .i64 _ _ n rfl rfl ?d1 ?d2 ?c1 ?c2 ?c3 ?_)
  case d1 => rfl
  case d2 => rfl
  case c1 => rw [hz2]; omega
  case c2 => unfold maxLen; omega
  case c3 => exact Nat.le_refl _
  intro w1 hown hgr
  have hx1 : Ext w w1 := (Ext.refl _).grown hgr (by simp)
  rw [show (madeCells #[Value.int .i64 0] n).toList = ivs (List.replicate n 0) by rw [toList_madeCells_one]; simp [ivs]] at hown
  obtain ⟨g1, hg1⟩ : ∃ g, w.heap.size = g := ⟨_, rfl⟩
  rw [hg1] at hown
  try rw [hg1]
  obtain ⟨zs, hzs⟩ : ∃ zs : List Int, List.replicate n 0 = zs := ⟨_, rfl⟩
  rw [hzs] at hown
  have hzl : zs.length = n := by rw [← hzs, List.length_replicate]
  have hzz : ∀ z ∈ zs, smallQ z := fun z h => by rw [← hzs] at h; rw [(List.mem_replicate.1 h).2]; simp [smallQ]
  have hO : OwnInts g1 w1 (.slice (some ⟨g1, 0, none⟩) n n) zs := by
    have h2 := hown
    rw [← hzl] at h2
    rw [← hzl]
    exact h2
  have hI : Ints w1 (.slice (some ⟨g1, 0, none⟩) n n) zs := ownsRow_row hO
  obtain ⟨gb, hgb⟩ : ∃ g, w1.heap.size = g := ⟨_, rfl⟩
  obtain ⟨W, hW⟩ : ∃ W, W = w1.alloc (.cells #[.slice (some ⟨g1, 0, none⟩) n n] 27) := ⟨_, rfl⟩
  have hX : Ext w1 W := by rw [hW]; exact Ext.alloc _ _
  have hB : Blk W gb 27 #[.slice (some ⟨g1, 0, none⟩) n n] := by rw [hW]; exact Blk.new _ _ _ _ hgb
  have hL : Lists W (.slice (some ⟨gb, 0, none⟩) 1 1) [zs] := by
    refine ⟨[.slice (some ⟨g1, 0, none⟩) n n], ⟨_, _, rfl, Nat.le_refl _, by omega, rfl, fun _ => ⟨gb, 0, rfl, fun j hj => ?_⟩⟩, fun i hi => ?_⟩
    · have : j = 0 := by simp at hj; omega
      subst this
      have := hB.cell 0
      simpa using this
    · have : i = 0 := by simp at hi; omega
      subst this
      exact ⟨_, rfl, hI.ext hX, .inr ⟨_, _, _, _, rfl⟩⟩
  have SC := setOf_c n (.slice (some ⟨gb, 0, none⟩) 1 1) [zs] W hL (by simp) (fun x hx => by rw [List.mem_singleton.1 hx]; exact ⟨by omega, by omega, hzz⟩)
  have HX := Lib.hid (hx1.trans hX)
  have HW : Hid (zs = List.replicate n 0) := Lib.hid hzs.symm
  clear hown hgr hx1 hX hB hL hI hO hzl hzz hi hz0 hz1 hz2 hzs hg1
  go_wp2_with fail
  try rw [hgb]
  try rw [← hW]
  refine SC.mono ?_
  rintro e w2 ⟨g, mb, rfl, hS, hb1, hb2, hne, hx2⟩
  have hS0 : SetAt w2 g mb 1 n (anyT (winL xs n 1)) := by
    have e : winL xs n 1 = [zs] := by rw [HW.out]; simp [winL]
    rw [e]
    exact hS
  have HX2 := Lib.hid (HX.out.trans hx2)
  have HM : Hid (w.heap.size ≤ mb) := Lib.hid (Nat.le_trans HX.out.size hb2)
  have HNE := Lib.hid hne
  clear SC hS hb1 hb2 hne hx2 hW hgb
  go_wp2
  go_loopw [6] (fun i wr => ∃ k : Nat, 1 ≤ k ∧ (k ≤ xs.length ∨ k = 1) ∧ i = .int .i64 (k : Int) ∧ SetAt wr g mb k n (anyT (winL xs n k)) ∧ Ext w wr) (fun i _ => xs.length - (intOf i).toNat)
  case atStart => exact ⟨1, Nat.le_refl _, .inr rfl, rfl, hS0, HX2.out⟩
  case round =>
    clear hS0
    obtain ⟨k, hk1, hk, rfl, hS, hx'⟩ := hrel
    by_cases hlt : k < xs.length
    · have hc1 : (k : Int) < (xs.length : Int) := by omega
      have hd : decide ((k : Int) < (xs.length : Int)) = true := decide_eq_true hc1
      have HT : Hid (winL xs n (k + 1) = winL xs n k ++ [cellsF xs k n]) := Lib.hid (winL_succ xs n k hk1)
      have hwk : IntKind.i64.wrap ((k : Int) + 1) = ((k + 1 : Nat) : Int) := by rw [show (k : Int) + 1 = ((k + 1 : Nat) : Int) by omega]; exact IntWalk.i64_in _ (by omega)
      have s0 := hS.blk.cell 0
      simp only [List.getElem?_toArray, List.getElem?_cons_zero] at s0
      have HS := Lib.hid hS
      have HX := Lib.hid hx'
      obtain ⟨x, hx⟩ : ∃ x, cellsF xs k n = x := ⟨_, rfl⟩
      have hxl : x.length = n := by rw [← hx, cellsF_len]
      have HXS : Hid (∀ z ∈ x, smallQ z) := Lib.hid (by rw [← hx]; exact cellsF_small hz k n)
      have HXE := Lib.hid hx
      have HXL := Lib.hid hxl
      clear hS hx' hx hxl
      go_upto_region 5 with fail
      refine wp_region_ordT 9 (readsT [0, 1, 2, 3, 4, 5, 6] (.stir 7 (.stir 8 .done))) (by kernel_rfl) (by kernel_rfl) (fun _ _ _ _ _ h => h) ?_
      simp only [readsT]
      iterate 7 (refine wpOrdT_read (v := ?_) (by rfl) (Or.inl ⟨by rfl, fun x hx => ?_⟩) ?_; rotate_left; (· have s0 := hx.cell s0; go_simp; try with_reducible rfl); try simp only [Act.put, List.setIfInBounds_toArray, List.set_cons_zero, List.set_cons_succ])
      have hx0 : Ext wr wr.drew := Ext.drew wr
      generalize wr.drew = w0 at *
      refine wpOrdT_keep (by rfl) (fun K hK => ?_)
      go_simp
      go_at_call 74
      refine (cellsFrom_c _ xs k n w0 (H.out.ext (HX.out.trans hx0)) (by omega) (by omega)).mono ?_
      rintro e wc ⟨u, rfl, ou, hxc⟩
      rw [HXE.out] at ou
      refine hK _ _ hxc ?_
      clear hK K
      try simp only [Act.put, List.setIfInBounds_toArray, List.set_cons_zero, List.set_cons_succ]
      obtain ⟨bu, oo, cu, rfl⟩ := ints_at (ownsRow_row ou) (by rw [HXL.out]; omega)
      have HU : Hid (Ints wc (.slice (some ⟨bu, oo, none⟩) x.length cu) x) := Lib.hid (ownsRow_row ou)
      clear ou
      have HXL' := HXL.out
      refine wpOrdT_keep (by rfl) (fun K hK => ?_)
      go_simp
      go_at_call 66
      have JC := itemOf_c bu oo cu x wc HU.out (by omega) (by omega)
      rw [HXL.out] at JC
      refine JC.mono ?_
      rintro e w3 ⟨rfl, hx3⟩
      refine hK _ _ (hxc.trans hx3) ?_
      clear hK K JC
      try simp only [Act.put, List.setIfInBounds_toArray, List.set_cons_zero, List.set_cons_succ]
      refine wpOrdT_done ?_
      try simp only [List.drop_succ_cons, List.drop_zero]
      have hx01 := (hx0.trans hxc).trans hx3
      have hS1 := HS.out.ext hx01
      obtain ⟨w4, hup, hT2, hg2⟩ := hS1.tab.put (by unfold maxLen; omega) (by omega) HXS.out
      have hgm : g ≠ mb := HNE.out
      have hB2 := hS1.blk.kept hg2 (by simpa using hgm)
      have HX4 : Hid (Ext w w4) := Lib.hid ((HX.out.trans hx01).grown hg2 (fun j hj => by injection hj with hj; have := HM.out; omega))
      have HS4 : Hid (SetAt w4 g mb (k + 1) n (anyT (winL xs n (k + 1)))) := Lib.hid (by rw [HT.out, anyT_snoc, HXE.out]; exact ⟨hB2, hT2⟩)
      clear hx0 hxc hx3 hx01 hS1 hT2 hg2 hB2 s0 hgm
      generalize itemV x = iv at *
      go_wp2
      go_roundw
      case rel => exact ⟨k + 1, by omega, by omega, by go_num, HS4.out, HX4.out⟩
      case measure => simp [intOf]; omega
    · have hc1 : ¬ (k : Int) < (xs.length : Int) := by omega
      have hd : decide ((k : Int) < (xs.length : Int)) = false := decide_eq_false hc1
      have HS : Hid (SetAt wr g mb (1 + xs.length) n (anyT (winL xs n xs.length))) := Lib.hid (by
        have e : winL xs n k = winL xs n xs.length := by unfold winL; rw [show k - 1 = xs.length - 1 by omega]
        rw [e] at hS
        exact ⟨hS.blk, hS.tab.mono (by omega)⟩)
      clear hS
      go_wp2
      go_ret
      exact ⟨_, rfl, ⟨_, HS.out⟩, hx'⟩
end Go.Proofs.YtapjofbjedpmgaaGreat
end
section
set_option linter.unusedSimpArgs false
set_option linter.unusedVariables false
namespace Go.Proofs.YtapjofbjedpmgaaGreat
open Go Go.RowKit Go.Proofs
/-- The windows and contexts that can follow. -/
def sideR (w : List Int) (n k : Nat) : List Int := w.drop (n + 2) ++ [(k : Int)]
def sideL (w : List Int) (n k : Nat) : List Int := (w.take n).drop 1 ++ [(k : Int)]
def nextR (a : Int) (w : List Int) (n k : Nat) : List Int := a :: (w.take (n - 1) ++ (w.getD (n + 1) 0 :: sideR w n k))
def nextL (a : Int) (w : List Int) (n k : Nat) : List Int := sideL w n k ++ (w.getD 0 0 :: a :: (w.drop (n + 1)).take (n - 1))
def sideX (r : RuleD) (w : List Int) (n k : Nat) : List Int := if r.m = 1 then sideR w n k else sideL w n k
def nextX (r : RuleD) (w : List Int) (n k : Nat) : List Int := if r.m = 1 then nextR r.w w n k else nextL r.w w n k
def followX (r : RuleD) (w : List Int) (n : Nat) (TL TR : List Int → Bool) : Nat → List (List Int)
  | 0 => []
  | k + 1 => followX r w n TL TR k ++ if (if r.m = 1 then TR else TL) (padI (sideX r w n k)) = true then [nextX r w n k] else []
theorem mem_followX {r : RuleD} {w : List Int} {n : Nat} {TL TR : List Int → Bool} {y : List Int} : ∀ {K : Nat}, y ∈ followX r w n TL TR K ↔ ∃ k, k < K ∧ (if r.m = 1 then TR else TL) (padI (sideX r w n k)) = true ∧ y = nextX r w n k
  | 0 => by simp [followX]
  | K + 1 => by
    rw [followX, List.mem_append, mem_followX]
    constructor
    · rintro (⟨k, h1, h2, h3⟩ | h)
      · exact ⟨k, by omega, h2, h3⟩
      · by_cases h2 : (if r.m = 1 then TR else TL) (padI (sideX r w n K)) = true
        · rw [if_pos h2, List.mem_singleton] at h
          exact ⟨K, by omega, h2, h⟩
        · rw [if_neg h2] at h
          cases h
    · rintro ⟨k, h1, h2, h3⟩
      by_cases e : k = K
      · subst e
        right
        rw [if_pos h2, h3]
        exact List.mem_singleton.2 rfl
      · exact .inl ⟨k, by omega, h2, h3⟩
theorem followX_len (r : RuleD) (w : List Int) (n : Nat) (TL TR : List Int → Bool) : ∀ K, (followX r w n TL TR K).length ≤ K
  | 0 => by simp [followX]
  | K + 1 => by
    rw [followX, List.length_append]
    have := followX_len r w n TL TR K
    by_cases h2 : (if r.m = 1 then TR else TL) (padI (sideX r w n K)) = true
    · rw [if_pos h2, List.length_singleton]; omega
    · rw [if_neg h2, List.length_nil]; omega
theorem followX_mono {r : RuleD} {w : List Int} {n : Nat} {TL TR TL' TR' : List Int → Bool} (h1 : ∀ x, TL x = true → TL' x = true) (h2 : ∀ x, TR x = true → TR' x = true) {K : Nat} {y : List Int} (h : y ∈ followX r w n TL TR K) : y ∈ followX r w n TL' TR' K := by
  rw [mem_followX] at h ⊢
  obtain ⟨k, a, b, c⟩ := h
  refine ⟨k, a, ?_, c⟩
  by_cases e : r.m = 1
  · simp only [e, if_true] at b ⊢; exact h2 _ b
  · simp only [e, if_false] at b ⊢; exact h1 _ b
theorem sideX_len {r : RuleD} {w : List Int} {n k : Nat} (hw : w.length = 2 * n + 1) (hn : 1 ≤ n) : (sideX r w n k).length = n := by
  unfold sideX sideR sideL
  split <;> simp [hw] <;> omega
theorem nextX_len {r : RuleD} {w : List Int} {n k : Nat} (hw : w.length = 2 * n + 1) (hn : 1 ≤ n) : (nextX r w n k).length = 2 * n + 1 := by
  unfold nextX nextR nextL sideR sideL
  split <;> simp [hw] <;> omega
/-- The parts of a proof. -/
structure SetsD where
  n : Nat
  l : List (List Int)
  r : List (List Int)
  c : List (List Int)
def inT (xss : List (List Int)) (x : List Int) : Bool := anyT xss (padI x)
theorem inT_iff {xss : List (List Int)} {x : List Int} (h : ∀ z ∈ xss, z.length = x.length) : inT xss x = true ↔ x ∈ xss := by
  unfold inT anyT
  rw [List.any_eq_true]
  constructor
  · rintro ⟨z, hz, e⟩
    have := padI_inj (h z hz).symm (of_decide_eq_true e)
    rw [this]; exact hz
  · intro hx
    exact ⟨x, hx, decide_eq_true rfl⟩
structure SetsOk (s : SetsD) : Prop where
  n1 : 1 ≤ s.n
  n4 : s.n ≤ 4
  l : ∀ x ∈ s.l, x.length = s.n
  r : ∀ x ∈ s.r, x.length = s.n
  c : ∀ x ∈ s.c, x.length = 2 * s.n + 2
/-- What is asked of each context. -/
def ctxOk (m : MachD) (s : SetsD) (w : List Int) : Bool :=
  isR (ruleX m (w.getD 0 0) (w.drop 1)) && inT (if (ruleX m (w.getD 0 0) (w.drop 1)).m = 1 then s.l else s.r) (lostX (ruleX m (w.getD 0 0) (w.drop 1)) (w.drop 1)) &&
    (followX (ruleX m (w.getD 0 0) (w.drop 1)) (w.drop 1) s.n (anyT s.l) (anyT s.r) m.sy.toNat).all fun y => inT s.c ((ruleX m (w.getD 0 0) (w.drop 1)).n :: y)
def fitsX (m : MachD) (s : SetsD) : Bool := s.l.all (listB s.n (m.sy - 1)) && s.r.all (listB s.n (m.sy - 1)) && s.c.all fun w => decide (w.getD 0 0 < m.st) && (w.drop 1).all fun z => inB z 0 (m.sy - 1)
def zerosX (s : SetsD) : Bool := inT s.l (List.replicate s.n 0) && inT s.r (List.replicate s.n 0) && inT s.c (List.replicate (2 * s.n + 2) 0)
def chkX (m : MachD) (s : SetsD) : Bool := fitsX m s && zerosX s && s.c.all (ctxOk m s)
def covX (s : SetsD) (c : ConfD) : Bool := inT s.c (c.q :: ctxF c s.n) && (winL c.l s.n c.l.length).all (inT s.l) && (winL (c.r.drop 1) s.n (c.r.drop 1).length).all (inT s.r)
theorem cellsF_eq {xs ys : List Int} {f g n : Nat} (h : ∀ k, k < n → xs.getD (f + k) 0 = ys.getD (g + k) 0) : cellsF xs f n = cellsF ys g n := by
  unfold cellsF
  exact List.map_congr_left fun k hk => h k (List.mem_range.1 hk)
theorem getD_out {xs : List Int} {k : Nat} (h : xs.length ≤ k) : xs.getD k 0 = 0 := by
  rw [List.getD_eq_getElem?_getD, List.getElem?_eq_none h]; rfl
theorem cellsF_out {xs : List Int} {f n : Nat} (h : xs.length ≤ f) : cellsF xs f n = List.replicate n 0 := by
  apply List.ext_getElem (by simp [cellsF])
  intro i h1 h2
  have := getD_out (xs := xs) (k := f + i) (by omega)
  simp [cellsF] at this ⊢
  exact this
theorem win_all {xs : List Int} {n : Nat} {P : List Int → Bool} : (winL xs n xs.length).all P = true ↔ P (List.replicate n 0) = true ∧ ∀ f, 1 ≤ f → P (cellsF xs f n) = true := by
  unfold winL
  rw [List.all_cons, Bool.and_eq_true, List.all_eq_true]
  constructor
  · rintro ⟨h1, h2⟩
    refine ⟨h1, fun f hf => ?_⟩
    by_cases hlt : f < xs.length
    · exact h2 _ (List.mem_map.2 ⟨f - 1, List.mem_range.2 (by omega), by rw [show f - 1 + 1 = f by omega]⟩)
    · rw [cellsF_out (by omega)]; exact h1
  · rintro ⟨h1, h2⟩
    refine ⟨h1, fun x hx => ?_⟩
    obtain ⟨i, _, rfl⟩ := List.mem_map.1 hx
    exact h2 _ (by omega)
theorem cellsF_get {xs : List Int} {f n k : Nat} (h : k < n) : (cellsF xs f n).getD k 0 = xs.getD (f + k) 0 := by
  simp [cellsF, List.getD_eq_getElem?_getD, List.getElem?_map, List.getElem?_range h]
theorem pushL_get (a : Int) (xs : List Int) (k : Nat) : (pushL a xs).getD k 0 = (a :: xs).getD k 0 := by
  unfold pushL
  split
  · rename_i h
    rw [h.1, h.2]
    cases k <;> rfl
  · rfl
theorem drop_get (xs : List Int) (j k : Nat) : (xs.drop j).getD k 0 = xs.getD (j + k) 0 := by
  simp [List.getD_eq_getElem?_getD, List.getElem?_drop]
theorem ctxF_len (c : ConfD) (n : Nat) : (ctxF c n).length = 2 * n + 1 := by
  unfold ctxF
  rw [List.length_append, cellsF_len, cellsF_len]
  omega
theorem ctxF_l {c : ConfD} {n k : Nat} (h : k < n) : (ctxF c n).getD k 0 = c.l.getD k 0 := by
  unfold ctxF
  rw [List.getD_eq_getElem?_getD, List.getElem?_append_left (by rw [cellsF_len]; exact h), ← List.getD_eq_getElem?_getD, cellsF_get h, Nat.zero_add]
theorem ctxF_r {c : ConfD} {n k : Nat} (h : k < n + 1) : (ctxF c n).getD (n + k) 0 = c.r.getD k 0 := by
  unfold ctxF
  rw [List.getD_eq_getElem?_getD, List.getElem?_append_right (by rw [cellsF_len]; omega), ← List.getD_eq_getElem?_getD, cellsF_len, show n + k - n = k by omega, cellsF_get h, Nat.zero_add]
theorem eq_of_getD {xs ys : List Int} (hl : xs.length = ys.length) (h : ∀ k, k < xs.length → xs.getD k 0 = ys.getD k 0) : xs = ys := by
  apply List.ext_getElem hl
  intro i h1 h2
  have := h i h1
  simpa [List.getD_eq_getElem?_getD, List.getElem?_eq_getElem h1, List.getElem?_eq_getElem h2] using this
theorem take_getD {xs : List Int} {j k : Nat} (h : k < j) : (xs.take j).getD k 0 = xs.getD k 0 := by
  simp [List.getD_eq_getElem?_getD, List.getElem?_take_of_lt h]
theorem app_getD {xs ys : List Int} {k : Nat} : (xs ++ ys).getD k 0 = if k < xs.length then xs.getD k 0 else ys.getD (k - xs.length) 0 := by
  simp only [List.getD_eq_getElem?_getD]
  split
  · rename_i h; rw [List.getElem?_append_left h]
  · rename_i h; rw [List.getElem?_append_right (by omega)]
theorem cons_getD {x : Int} {xs : List Int} {k : Nat} : (x :: xs).getD k 0 = if k = 0 then x else xs.getD (k - 1) 0 := by
  cases k <;> simp
end Go.Proofs.YtapjofbjedpmgaaGreat
end
