/- Contracts: contexts with states in front.
The contract of the reference's drawing of the symbols on one side of the head. The machine has 2 to 6 symbols.
Contract: the copy of a formula tape. -/
import Derived.Test.YtapjofbjedpmgaaGreatC19
import Derived.Test.YtapjofbjedpmgaaGreatC12
import Derived.Test.YtapjofbjedpmgaaGreatC14
import Derived.Test.YtapjofbjedpmgaaGreatC06
import Derived.Test.YtapjofbjedpmgaaGreatC09
import Derived.Test.YtapjofbjedpmgaaGreatC05
import Derived.Maps.AppendAt
import Derived.Test.YtapjofbjedpmgaaGreatC17
section
set_option linter.unusedSimpArgs false
set_option linter.unusedVariables false
namespace Go.Proofs.YtapjofbjedpmgaaGreat
open Go Go.RowKit Go.Proofs
set_option maxHeartbeats 400000
/-- Lists with numbers in front. -/
def statedX (qs : List Int) (xss : List (List Int)) : List (List Int) := List.zipWith (fun q x => q :: x) qs xss
theorem statedX_take (qs : List Int) (xss : List (List Int)) (k : Nat) (h1 : k < qs.length) (h2 : k < xss.length) : (statedX qs xss).take (k + 1) = (statedX qs xss).take k ++ [qs[k] :: xss[k]] := by
  have hl : k < (statedX qs xss).length := by unfold statedX; rw [List.length_zipWith]; omega
  rw [List.take_succ_eq_append_getElem hl]
  congr 2
  simp [statedX]
/-- A part of a slice. -/
theorem Ints.partX {w : World} {b off c : Nat} {zs : List Int} (h : Ints w (.slice (some ⟨b, off, none⟩) zs.length c) zs) (i k : Nat) (hk : i + k ≤ zs.length) : Ints w (.slice (some ⟨b, off + i, none⟩) k (c - i)) ((zs.drop i).take k) := by
  have h1 := h.drop i (by omega)
  have e : (zs.drop i).length = zs.length - i := by rw [List.length_drop]
  rw [← e] at h1
  exact h1.take k (by rw [e]; omega)
set_option maxRecDepth 200000 in
set_option maxHeartbeats 8000000 in
theorem stated_c (v1 v2 : Value) (qs : List Int) (xss : List (List Int)) (w : World) (hq : Ints w v1 qs) (h : Lists w v2 xss) (hl : xss.length ≤ qs.length) (hx : xss.length ≤ 1000) (hz : ∀ x ∈ xss, x.length ≤ 1000) :
    Calls Tryz.prog 70 #[v1, v2] w fun e w' => ∃ u, e = .returned u ∧ OwnLists w.heap.size w' u (statedX qs xss) ∧ Ext w w' := by
  obtain ⟨r0i, hri, rz0, rz1, rz2⟩ := info_parts rowInfo
  obtain ⟨Aq, cq, rfl, hcq, _⟩ := id hq.form
  obtain ⟨A, c, rfl, _, _⟩ := id h.form
  have H := Lib.hid (And.intro h hq)
  obtain ⟨W, hW⟩ : ∃ W, W = w.alloc (.cells #[] 27) := ⟨_, rfl⟩
  have hX : Ext w W := by rw [hW]; exact Ext.alloc _ _
  obtain ⟨g, hg⟩ : ∃ g, w.heap.size = g := ⟨_, rfl⟩
  have o0 : OwnLists g W (.slice (some ⟨g, 0, none⟩) 0 0) [] := ⟨[], ⟨by simp, .inr ⟨g, 0, #[], rfl, Nat.le_refl _, by rw [hW, ← hg]; exact heap_alloc_new w _, by simp, by unfold maxLen; omega, rfl, by simp⟩⟩, fun i hi => by simp at hi⟩
  have HG := Lib.hid hg
  clear h hq
  go_enter Tryz.func70, Tryz.ntmps70
  go_wp2
  try rw [← hW]
  try rw [hg]
  clear hW hg
  go_loopw [5, 11] (fun u i wr => ∃ (k : Nat) (uv : Value), k ≤ xss.length ∧ i = .int .i64 (k : Int) ∧ uv = u ∧ OwnLists g wr uv ((statedX qs xss).take k) ∧ Ext w wr) (fun _ i _ => xss.length - (intOf i).toNat)
  case atStart => exact ⟨0, _, Nat.zero_le _, rfl, rfl, o0, hX⟩
  case round =>
    clear o0 hX
    obtain ⟨k, uv, hk, rfl, rfl, ho, hx'⟩ := hrel
    obtain ⟨P, hP⟩ : ∃ P, (statedX qs xss).take k = P := ⟨_, rfl⟩
    rw [hP] at ho
    have HP := Lib.hid hP
    have hsl : (statedX qs xss).length = xss.length := by unfold statedX; rw [List.length_zipWith]; omega
    have HPL : Hid (P.length = k) := Lib.hid (by rw [← hP, List.length_take]; omega)
    have hpl : P.length ≤ 1000 := by have := HPL.out; omega
    have HSL := Lib.hid hsl
    clear hP hsl
    by_cases hlt : k < xss.length
    · have hd : decide ((k : Int) < (xss.length : Int)) = true := decide_eq_true (by omega)
      have hkq : k < qs.length := by omega
      obtain ⟨b, off, u, rfl, c0, hu, hf⟩ := Lists.at (H.out.1.ext hx') hlt
      obtain ⟨bq, oq, rfl, _⟩ := (H.out.2.ext hx').at hkq
      have hone := (H.out.2.ext hx').partX k 1 (by omega)
      have e1 : (qs.drop k).take 1 = [qs[k]] := by rw [List.drop_eq_getElem_cons hkq]; rfl
      rw [e1] at hone
      have hul := hz _ (List.getElem_mem hlt)
      have HT := Lib.hid (statedX_take qs xss k hkq hlt)
      have hwk : IntKind.i64.wrap ((k : Int) + 1) = ((k + 1 : Nat) : Int) := by rw [show (k : Int) + 1 = ((k + 1 : Nat) : Int) by omega]; exact IntWalk.i64_in _ (by omega)
      obtain ⟨Au, cu, rfl, _, _⟩ := id hu.form
      have JC := joined2_c (some ⟨bq, oq + k, none⟩) Au (cq - k) cu [qs[k]] xss[k] wr hone hu (.inr ⟨_, _, _, _, rfl⟩) hf (by simp only [List.length_cons, List.length_nil]; omega)
      simp only [List.length_cons, List.length_nil, Nat.zero_add] at JC
      obtain ⟨q0, hq0⟩ : ∃ q, qs[k] = q := ⟨_, rfl⟩
      obtain ⟨x, hxk⟩ : ∃ x, xss[k] = x := ⟨_, rfl⟩
      rw [hq0, hxk] at JC HT
      rw [hxk] at hul
      have hc1 : (k : Int) < (xss.length : Int) := by omega
      generalize hnx : xss[k].length = nx at *
      have hnx2 : x.length = nx := by rw [← hxk]; exact hnx
      rw [hnx2] at JC hul
      have HNX := Lib.hid hnx2
      have hk1q : k + 1 ≤ cq := by omega
      have hk2q : k < qs.length := hkq
      clear hu hf hone hq0 hxk e1 hnx hnx2
      obtain ⟨y, hy⟩ : ∃ y, [q0] ++ x = y := ⟨_, rfl⟩
      rw [hy] at JC
      have HY : Hid (q0 :: x = y) := Lib.hid hy
      have hyl : y.length ≤ 1001 := by rw [← hy]; simp only [List.length_append, List.length_cons, List.length_nil]; have := HNX.out; omega
      clear hy
      go_wp2_with fail
      refine JC.mono ?_
      rintro e w1 ⟨z, rfl, oz, hx1⟩
      obtain ⟨vs, p1, p2⟩ := ho
      obtain ⟨Aw, cw, hwv, _, _, _⟩ := (ownsRow_row p1).form
      subst hwv
      have e1 := Ext.alloc w1 (.cells #[z] 27)
      have q1 := ownsRow_ext p1 (hx1.trans e1)
      have q2 : ∀ i, (h : i < P.length) → ∃ u, vs[i]? = some u ∧ OwnInts g (w1.alloc (.cells #[z] 27)) u P[i] := fun i hi => by obtain ⟨u, a, b⟩ := p2 i hi; exact ⟨u, a, ownsRow_ext b (hx1.trans e1)⟩
      have hgw : g ≤ wr.heap.size := by have := hx'.size; have := HG.out; omega
      have oz2 : OwnInts g (w1.alloc (.cells #[z] 27)) z y := ownsRow_base (ownsRow_ext oz e1) hgw
      have hxx := (hx'.trans hx1).trans e1
      have hszb : g ≤ (w1.alloc (.cells #[z] 27)).heap.size := by have := hxx.size; have := HG.out; omega
      obtain ⟨Az, cz, rfl, _, _, _⟩ := (ownsRow_row oz).form
      have hq1 : (w1.alloc (.cells #[.slice Az y.length cz] 27)).ownsRow g 27 1 (.slice Aw P.length cw) P.length vs := q1
      have HOZ := Lib.hid oz2
      have HQ2 := Lib.hid q2
      clear p1 p2 oz oz2 q2 hx1 e1 JC
      generalize hxl : y.length = ny at *
      go_wp2_with (at_builtin; refine wpList_append_own_at _ rfl _ _ 32 rfl g 27 r0i (.slice none 0 0) 1 24 Tryz.underlying32 hri rz0 rz1 rz2 rfl (by decide) _ _ _ rfl hq1 ⟨w1.heap.size, 0, none⟩ 1 1 [.slice Az ny cz] rfl rfl (cell_one_new _ _ _) ?c2 ?c3 ?c4 ?c5 ?_)
      case c2 => intro u hu; simp at hu; subst hu; rfl
      case c3 => unfold maxLen; omega
      case c4 => omega
      case c5 => exact hszb
      intro v' w4 hown4 hg4 _ hloc
      have hx4 : Ext w w4 := hxx.grown hg4 (fun j hj => by have := (q1.lt j hj).1; have := HG.out; omega)
      have HS : Hid (OwnLists g w4 v' ((statedX qs xss).take (k + 1))) := Lib.hid (by rw [HT.out, HP.out, HY.out]; exact OwnLists.snoc q1 HQ2.out HOZ.out hown4 hg4)
      clear hown4 hg4 q1 hq1
      go_wp2
      go_roundw
      case rel => exact ⟨k + 1, _, by omega, by go_num, rfl, HS.out, hx4⟩
      case measure => simp [intOf]; omega
    · have hd : decide ((k : Int) < (xss.length : Int)) = false := decide_eq_false (by omega)
      have HO : Hid (OwnLists w.heap.size wr uv (statedX qs xss)) := Lib.hid (by have e := HP.out; rw [List.take_of_length_le (by have := HSL.out; omega)] at e; rw [HG.out, e]; exact ho)
      go_wp2
      go_ret
      exact ⟨_, rfl, HO.out, hx'⟩
end Go.Proofs.YtapjofbjedpmgaaGreat
end
section
set_option linter.unusedSimpArgs false
set_option linter.unusedVariables false
namespace Go.Proofs.YtapjofbjedpmgaaGreat
open Go Go.RowKit Go.Proofs
set_option maxHeartbeats 400000
theorem trimN_last (xs : List Int) : ∀ n, trimN xs n = 0 ∨ xs.getD (trimN xs n - 1) 0 ≠ 0 := by
  intro n
  induction n with
  | zero => exact .inl rfl
  | succ n ih =>
    unfold trimN
    split
    · exact ih
    · rename_i h
      right
      simpa using h
theorem trim_side {xs : List Int} {sy : Int} (hl : xs.length ≤ 200) (h : ∀ z ∈ xs, 0 ≤ z ∧ z < sy) : sideOk (trim xs) sy 200 = true := by
  have hle := trim_len xs
  simp only [sideOk, inB, Bool.and_eq_true, Bool.or_eq_true, decide_eq_true_eq, List.all_eq_true, beq_iff_eq, bne_iff_ne, ne_eq]
  refine ⟨⟨by omega, fun z hz => by have := h z (trim_mem hz); omega⟩, ?_⟩
  by_cases h0 : 0 < (trim xs).length
  · right
    rw [lastD_get h0]
    have hn : (trim xs).length = trimN xs xs.length := by
      have := trimN_le xs xs.length
      simp [trim]; omega
    rcases trimN_last xs xs.length with e | e
    · omega
    · rw [← hn, List.getD_eq_getElem?_getD] at e
      have hk : (trim xs).length - 1 < (trim xs).length := by omega
      have hk' : (trim xs).length - 1 < xs.length := by omega
      rw [List.getElem?_eq_getElem hk', Option.getD_some] at e
      have : (trim xs)[(trim xs).length - 1] = xs[(trim xs).length - 1] := by simp [trim]
      rw [this]
      exact e
  · left
    omega
structure CellSt (B b bm n d : Nat) (sy : Int) (st rv : Value) (w : World) (u : Value) (xs : List Int) (W : World) : Prop where
  mac : Blk W bm 26 #[.int .i64 sy, st, rv]
  own : OwnInts w.heap.size W u xs
  src : Src B W b (n + d)
  grown : w.grownBy W (some b)
theorem CellSt.ext {B b bm n d : Nat} {sy : Int} {st rv : Value} {w : World} {u : Value} {xs : List Int} {W W' : World} (h : CellSt B b bm n d sy st rv w u xs W) (he : Ext W W') : CellSt B b bm n d sy st rv w u xs W' :=
  ⟨h.mac.ext he, ownsRow_ext h.own he, h.src.ext he, grownBy_trans h.grown (ext_grownBy he _)⟩
theorem CellSt.src' {B b bm n d d' : Nat} {sy : Int} {st rv : Value} {w : World} {u : Value} {xs : List Int} {W W' : World} (h : CellSt B b bm n d sy st rv w u xs W) (hs : Src B W' b (n + d')) (hg : W.grownBy W' (some b)) : CellSt B b bm n d' sy st rv w u xs W' :=
  ⟨blk_src h.src hg h.mac (by decide), own_src h.src hg h.own (by decide), hs, grownBy_trans h.grown hg⟩
theorem CellSt.snoc {B b bm n d : Nat} {sy : Int} {st rv : Value} {w : World} {u v : Value} {xs ys : List Int} {W W' : World} (h : CellSt B b bm n d sy st rv w u xs W) (hB : B ≤ w.heap.size) (hb : b < w.heap.size)
    (ho : OwnInts w.heap.size W' v ys) (hg : W.grownBy W' u.ownBlock) : CellSt B b bm n d sy st rv w v ys W' :=
  ⟨Blk.apart h.mac h.own (by decide) hg, ho, h.src.kept hg (fun k hk => by have := (h.own.lt k hk).1; exact ⟨by omega, by omega⟩),
   grownBy_step h.grown hg (fun k hk => .inl (h.own.lt k hk).1)⟩
set_option maxRecDepth 20000 in
set_option maxHeartbeats 4000000 in
theorem l05DrawCells_c (B b bm n : Nat) (sy : Int) (st rv : Value) (w : World) (h : Src B w b n) (hB : B ≤ w.heap.size) (hm : Blk w bm 26 #[.int .i64 sy, st, rv]) (h2 : 2 ≤ sy) (h6 : sy ≤ 6) (hn : n ≤ 100000000000) :
    Calls Tryz.prog 20 #[.pointer (some ⟨b, 0, none⟩), .pointer (some ⟨bm, 0, none⟩)] w fun e w' => (∃ u xs, e = .returned u ∧ OwnInts w.heap.size w' u xs ∧ sideOk xs sy 200 = true) ∧ Src B w' b (n + 1000) ∧ w.grownBy w' (some b) := by
  obtain ⟨i0, hi, hz0, hz1, hz2⟩ := info_parts intInfo
  have hbl := h.lt
  obtain ⟨W, hW⟩ : ∃ W, W = w.alloc (.cells #[] 2) := ⟨_, rfl⟩
  have hX : Ext w W := by rw [hW]; exact Ext.alloc _ _
  have st0 : CellSt B b bm n 0 sy st rv w (.slice (some ⟨w.heap.size, 0, none⟩) 0 0) [] W :=
    ⟨hm.ext hX, ⟨by simp [ivs], .inr ⟨w.heap.size, 0, #[], rfl, Nat.le_refl _, by rw [hW]; exact heap_alloc_new w _, by simp, by unfold maxLen; omega, rfl, by simp [ivs]⟩⟩, h.ext hX, ext_grownBy hX _⟩
  have HB := Lib.hid hB
  have HBL := Lib.hid hbl
  clear h hm hX
  go_enter Tryz.func20, Tryz.ntmps20
  go_wp2_with fail
  rw [← hW]
  clear hW hB hbl
  refine (pick_c B b _ 5 W st0.src (by omega)).mono ?_
  rintro e w1 ⟨⟨x, rfl, x0, _, x2⟩, hs1, hg1⟩
  have x3 := x2 (by omega)
  clear x2
  have st1 := st0.src' (d' := 2) hs1 hg1
  obtain ⟨K, rfl⟩ := Int.eq_ofNat_of_zero_le x0
  clear st0 hs1 hg1
  go_wp2
  go_loopw [5, 6] (fun u i wr => ∃ (xs : List Int), xs.length ≤ K ∧ i = .int .i64 ((K - xs.length : Nat) : Int) ∧ CellSt B b bm n (2 + 2 * xs.length) sy st rv w u xs wr ∧ Hid (∀ z ∈ xs, 0 ≤ z ∧ z < sy)) (fun _ i _ => (intOf i).toNat)
  case atStart => exact ⟨[], Nat.zero_le _, rfl, st1, Lib.hid (fun z hz => by simp at hz)⟩
  case round =>
    clear st1
    obtain ⟨xs, hk, rfl, stk, HA⟩ := hrel
    obtain ⟨Au, cu, rfl, _, _⟩ := stk.own.ints.form
    by_cases hlt : xs.length < K
    · have hd : decide ((0 : Int) < ((K - xs.length : Nat) : Int)) = true := by simp; omega
      have m0 := stk.mac.cell 0
      simp only [List.getElem?_toArray, List.getElem?_cons_zero] at m0
      go_wp2_with fail
      refine (pick_c B b _ sy _ stk.src (by omega)).mono ?_
      rintro e w2 ⟨⟨z, rfl, z0, _, z2⟩, hs2, hg2⟩
      have HZ := Lib.hid (z2 (by omega))
      have st2 := stk.src' (d' := 2 + 2 * xs.length + 2) hs2 hg2
      have HZ0 := Lib.hid z0
      clear stk hs2 hg2 m0 z2 z0
      have ho1 : w2.ownsRow w.heap.size 2 1 (.slice Au xs.length cu) xs.length (ivs xs) := st2.own
      have ho' := ho1.alloc (.cells #[.int .i64 z] 2)
      have st3 := st2.ext (Ext.alloc w2 (.cells #[.int .i64 z] 2))
      have hs := st2.grown.size
      go_wp2_with (at_builtin; refine wpList_append_own_at _ rfl _ _ 27 rfl w.heap.size 2 i0 (.int .i64 0) 1 8 Tryz.underlying27 hi hz0 hz1 hz2 rfl (by decide) _ _ _ rfl ho' ⟨w2.heap.size, 0, none⟩ 1 1 [.int .i64 z] rfl rfl (cell_one_new _ _ _) ?c2 ?c3 ?c4 ?c5 ?_)
      case c2 => intro u hu; simp at hu; subst hu; rfl
      case c3 => unfold maxLen; omega
      case c4 => omega
      case c5 => simp; omega
      intro v' w4 hown4 hg4 _ hloc
      obtain ⟨A', c', rfl, _, _, _⟩ := (ownsRow_row hown4).form
      have st4 := st3.snoc (ys := xs ++ [z]) HB.out HBL.out (by simpa [OwnInts, ivs_append, ivs] using hown4) hg4
      have hKk : ((K - xs.length : Nat) : Int) - 1 = ((K - (xs.length + 1) : Nat) : Int) := by omega
      have HS := Lib.hid st4
      clear st2 st3 st4 ho' ho1 hown4 hg4
      go_wp2
      go_roundw
      case rel => exact ⟨xs ++ [z], by simp; omega, by first | (rw [hKk]; simp; done) | (simp; done) | (simp; omega), by simpa [Nat.mul_add, Nat.add_assoc] using HS.out, Lib.hid (fun y hy => by
        rcases List.mem_append.1 hy with hy | hy
        · exact HA.out y hy
        · rw [List.mem_singleton.1 hy]; exact ⟨HZ0.out, HZ.out⟩)⟩
      case measure => simp [intOf]; omega
    · have hke : xs.length = K := by omega
      have HKE := Lib.hid hke
      clear hke
      have hd : decide ((0 : Int) < ((K - xs.length : Nat) : Int)) = false := by simp; omega
      go_wp2_with fail
      refine (one_c B b _ 40 _ stk.src (by omega)).mono ?_
      rintro e w2 ⟨⟨q, rfl⟩, hs2, hg2⟩
      have st2 := stk.src' (d' := 2 + 2 * xs.length + 2) hs2 hg2
      clear stk hs2 hg2 hd
      cases q with
      | false =>
        go_wp2_with fail
        refine (l05Trim_c _ xs w2 st2.own.ints (by omega)).mono ?_
        rintro e w3 ⟨u, rfl, ho3, hx3⟩
        have st3 := st2.ext hx3
        obtain ⟨A3, c3, rfl, _, _, _⟩ := (ownsRow_row ho3).form
        go_wp2
        go_ret
        exact ⟨⟨_, _, rfl, ownsRow_base ho3 st2.grown.size, trim_side (by omega) HA.out⟩, st3.src.mono (by omega), st3.grown⟩
      | true =>
        go_wp2_with fail
        refine (pick_c B b _ 2 _ st2.src (by omega)).mono ?_
        rintro e w3 ⟨⟨y, rfl, y0, _, y2⟩, hs3, hg3⟩
        have y3 := y2 (by omega)
        clear y2
        have st3 := st2.src' (d' := 2 + 2 * xs.length + 2 + 2) hs3 hg3
        clear st2 hs3 hg3
        obtain ⟨M, hM⟩ : ∃ M : Nat, 199 + y = (M : Int) := ⟨(199 + y).toNat, by omega⟩
        have hM1 : 199 ≤ M ∧ M ≤ 200 := by omega
        go_wp2
        have hL0 : xs.length ≤ 4 := by have := HKE.out; omega
        have HL0 : Hid (xs.length ≤ 4) := hL0
        obtain ⟨L0, hL0e⟩ : ∃ L0, L0 = xs.length := ⟨_, rfl⟩
        have HLE := Lib.hid hL0e
        have hL4 : L0 ≤ 4 := by omega
        clear hL0e hL0
        go_loopw [5, 7] (fun u i wr => ∃ (ys : List Int), L0 ≤ ys.length ∧ ys.length ≤ L0 + M ∧ i = .int .i64 ((L0 + M - ys.length : Nat) : Int) ∧ CellSt B b bm n (20 + 2 * ys.length) sy st rv w u ys wr ∧ Hid (∀ z ∈ ys, 0 ≤ z ∧ z < sy)) (fun _ i _ => (intOf i).toNat)
        case atStart => exact ⟨xs, by rw [HLE.out]; exact Nat.le_refl _, by have := HLE.out; omega, by congr 1; have := HLE.out; omega, ⟨st3.mac, st3.own, st3.src.mono (by have := HL0.out; omega), st3.grown⟩, HA⟩
        case round =>
          clear st3 HA hM
          obtain ⟨ys, hj0, hj, rfl, stj, HA⟩ := hrel
          obtain ⟨Au, cu, rfl, hcu, hcu'⟩ := stj.own.ints.form
          by_cases hlt : ys.length < L0 + M
          · have hd : decide ((0 : Int) < ((L0 + M - ys.length : Nat) : Int)) = true := by simp; omega
            go_wp2_with fail
            refine (pick_c B b _ 2 _ stj.src (by omega)).mono ?_
            rintro e w2 ⟨⟨z, rfl, z0, _, z2⟩, hs2, hg2⟩
            have HZ := Lib.hid (z2 (by omega))
            have st2 := stj.src' (d' := 20 + 2 * ys.length + 2) hs2 hg2
            have HZ0 := Lib.hid z0
            clear stj hs2 hg2 z2 z0
            have ho1 : w2.ownsRow w.heap.size 2 1 (.slice Au ys.length cu) ys.length (ivs ys) := st2.own
            have ho' := ho1.alloc (.cells #[.int .i64 z] 2)
            have st3 := st2.ext (Ext.alloc w2 (.cells #[.int .i64 z] 2))
            have hs := st2.grown.size
            go_wp2_with (at_builtin; refine wpList_append_own_at _ rfl _ _ 27 rfl w.heap.size 2 i0 (.int .i64 0) 1 8 Tryz.underlying27 hi hz0 hz1 hz2 rfl (by decide) _ _ _ rfl ho' ⟨w2.heap.size, 0, none⟩ 1 1 [.int .i64 z] rfl rfl (cell_one_new _ _ _) ?c2 ?c3 ?c4 ?c5 ?_)
            case c2 => intro u hu; simp at hu; subst hu; rfl
            case c3 => unfold maxLen; omega
            case c4 => omega
            case c5 => simp; omega
            intro v' w4 hown4 hg4 _ hloc
            obtain ⟨A', c', rfl, _, _, _⟩ := (ownsRow_row hown4).form
            have st4 := st3.snoc (ys := ys ++ [z]) HB.out HBL.out (by simpa [OwnInts, ivs_append, ivs] using hown4) hg4
            have hKk : ((L0 + M - ys.length : Nat) : Int) - 1 = ((L0 + M - (ys.length + 1) : Nat) : Int) := by omega
            have HS := Lib.hid st4
            clear st2 st3 st4 ho' ho1 hown4 hg4
            go_wp2
            go_roundw
            case rel => exact ⟨ys ++ [z], by simp; omega, by simp; omega, by first | (rw [hKk]; simp; done) | (simp; done) | (simp; omega), by simpa [Nat.mul_add, Nat.add_assoc] using HS.out, Lib.hid (fun y hy => by
              rcases List.mem_append.1 hy with hy | hy
              · exact HA.out y hy
              · rw [List.mem_singleton.1 hy]; exact ⟨HZ0.out, by have := HZ.out; omega⟩)⟩
            case measure => simp [intOf]; omega
          · have hje : 199 ≤ ys.length := by omega
            have hje2 : ys.length ≤ 204 := by omega
            have hd : decide ((0 : Int) < ((L0 + M - ys.length : Nat) : Int)) = false := by simp; omega
            have hA0 : Au ≠ none := by
              intro e
              have := stj.own.2
              rcases this with ⟨e1, _⟩ | ⟨g, _, _, e1, _⟩
              · injection e1 with e1 e2; omega
              · injection e1 with e1; rw [e] at e1; exact absurd e1 (by simp)
            have hot : OwnInts w.heap.size wr (.slice Au 199 cu) (ys.take 199) := OwnInts.take stj.own 199 (by omega) hA0
            have htl : (ys.take 199).length = 199 := by simp; omega
            have HT : Hid (∀ z ∈ ys.take 199, 0 ≤ z ∧ z < sy) := Lib.hid (fun z hz => HA.out z (List.mem_of_mem_take hz))
            have stt : CellSt B b bm n (20 + 2 * ys.length) sy st rv w (.slice Au 199 cu) (ys.take 199) wr := ⟨stj.mac, hot, stj.src, stj.grown⟩
            generalize ys.take 199 = ts at *
            have ho1 : wr.ownsRow w.heap.size 2 1 (.slice Au 199 cu) 199 (ivs ts) := by
              have := stt.own
              unfold OwnInts at this
              rw [htl] at this
              exact this
            have ho' := ho1.alloc (.cells #[.int .i64 1] 2)
            have st3 := stt.ext (Ext.alloc wr (.cells #[.int .i64 1] 2))
            have hs := stt.grown.size
            have hc9 : 199 ≤ cu := by omega
            clear stj hot stt
            go_wp2_with (at_builtin; refine wpList_append_own_at _ rfl _ _ 27 rfl w.heap.size 2 i0 (.int .i64 0) 1 8 Tryz.underlying27 hi hz0 hz1 hz2 rfl (by decide) _ _ _ rfl ho' ⟨wr.heap.size, 0, none⟩ 1 1 [.int .i64 1] rfl rfl (cell_one_new _ _ _) ?c2 ?c3 ?c4 ?c5 ?_)
            case c2 => intro u hu; simp at hu; subst hu; rfl
            case c3 => unfold maxLen; omega
            case c4 => omega
            case c5 => simp; omega
            intro v' w4 hown4 hg4 _ hloc
            obtain ⟨A', c', rfl, _, _, _⟩ := (ownsRow_row hown4).form
            have st4 := st3.snoc (ys := ts ++ [1]) HB.out HBL.out (by simpa [OwnInts, ivs_append, ivs, htl] using hown4) hg4
            have HL : Hid ((ts ++ [1]).length = 200) := Lib.hid (by simp [htl])
            have HQ : Hid (∀ z ∈ ts ++ [1], 0 ≤ z ∧ z < sy) := Lib.hid (fun z hz => by
              rcases List.mem_append.1 hz with hz | hz
              · exact HT.out z hz
              · rw [List.mem_singleton.1 hz]; omega)
            generalize ts ++ [1] = us at *
            clear st3 ho' ho1 hown4 hg4
            go_wp2_with fail
            refine (l05Trim_c _ us w4 st4.own.ints (by rw [HL.out]; omega)).mono ?_
            rintro e w5 ⟨u, rfl, ho5, hx5⟩
            have st5 := st4.ext hx5
            obtain ⟨A3, c3, rfl, _, _, _⟩ := (ownsRow_row ho5).form
            go_wp2
            go_ret
            exact ⟨⟨_, _, rfl, ownsRow_base ho5 st4.grown.size, trim_side (by rw [HL.out]; omega) HQ.out⟩, st5.src.mono (by omega), st5.grown⟩
end Go.Proofs.YtapjofbjedpmgaaGreat
end
section
set_option linter.unusedSimpArgs false
set_option linter.unusedVariables false
namespace Go.Proofs.YtapjofbjedpmgaaGreat
open Go Go.RowKit Go.Proofs
set_option maxHeartbeats 400000
/-- A formula tape that can be read. -/
structure FoV (w : World) (v : Value) (f : FoD) (wv rv ov : Value) : Prop where
  e : v = .agg #[.int .i64 f.q, .int .i64 f.hd, .int .i64 f.at_, wv, rv, ov]
  ws : Lists w wv f.ws
  rs : Lists w rv f.rs
  os : Ints w ov f.os
  fl : Flat ov
theorem FoV.ext {w w' : World} {v : Value} {f : FoD} {wv rv ov : Value} (h : FoV w v f wv rv ov) (he : Ext w w') : FoV w' v f wv rv ov := ⟨h.e, h.ws.ext he, h.rs.ext he, h.os.ext he, h.fl⟩
/-- Small lists. -/
structure FoSmall (f : FoD) : Prop where
  rn : 1 ≤ f.rs.length ∧ f.rs.length ≤ 3
  wn : f.ws.length = f.rs.length + 1
  on : f.os.length = f.rs.length
  wl : ∀ x ∈ f.ws, x.length ≤ 1000
  rl : ∀ x ∈ f.rs, x.length ≤ 1000
end Go.Proofs.YtapjofbjedpmgaaGreat
end
